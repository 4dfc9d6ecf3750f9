/- Worlds of the program and walks of its functions. -/
import Derived.Test.YtjealfplbigphaaGreatZr
import Derived.Test.YtjealfplbigphaaGreatZp
import Derived.Test.YtjealfplbigphaaGreatZo
import Derived.Test.YtjealfplbigphaaGreatZk
namespace Go.Nu
theorem Qj2 {x n j : Nat} (h : j < n) : (encB x n)[j]? = some (UInt8.ofNat (byt x (n - 1 - j))) := by
 unfold encB
 rw [List.getElem?_map, List.getElem?_reverse (by rw [List.length_range]; exact h), List.length_range, List.getElem?_range (by omega)]
 rfl
theorem uj5 (x n : Nat) : (encB x n).length = n := by
 unfold encB
 rw [List.length_map, List.length_reverse, List.length_range]
theorem qz4 (a : Sa) : a.enc.length = a.nb + 2 := by
 unfold Sa.enc
 rw [List.length_cons, List.length_cons, uj5]
theorem Qy8 {x : Nat} (n : Nat) : x < 2 ^ (64 * n) -> x < 2 ^ lenW (word x) n := by
 induction n with
 | zero => exact id
 | succ n ih =>
  intro h
  have h1 : x / 2 ^ (64 * n) < BB := Nat.div_lt_of_lt_mul (by rw [<- psucc]; exact h)
  have h2 : word x n = x / 2 ^ (64 * n) := Nat.mod_eq_of_lt h1
  have e := Nat.div_add_mod x (2 ^ (64 * n))
  have h4 := Nat.mod_lt x (p0 (64 * n))
  rw [lenW, h2]
  generalize x / 2 ^ (64 * n) = q at *
  generalize hP : 2 ^ (64 * n) = p at *
  by_cases h0 : q = 0
  . rw [if_neg (fun c => c h0)]
    refine ih ?_
    rw [h0, Nat.mul_zero, Nat.zero_add] at e
    rw [<- e]; exact h4
  . rw [if_pos h0, Nat.pow_add, hP]
    have h3 := Go.Arm.lt_bl q
    have h5 : p * (q + 1) ≤ p * 2 ^ bl q := Nat.mul_le_mul_left _ h3
    rw [Nat.mul_add, Nat.mul_one] at h5
    refine Nat.lt_of_lt_of_le ?_ h5
    have := Nat.add_lt_add_left h4 (p * q)
    rw [e] at this; exact this
theorem lt_len {x : Nat} (h : x < MM) : x < 2 ^ lenN x := by have e := pweq 2304 (64 * 36) rfl; unfold MM at h; rw [e] at h; exact Qy8 36 h
theorem xg5 {x : Nat} (h : x < MM) : absN x < MM := by
 unfold absN
 split
 . exact Nat.mod_lt _ zu8
 . exact h
theorem abs_nb {a : Sa} (h : a.s < MM) : absN a.s % 2 ^ (8 * a.nb) = absN a.s := by
 refine Nat.mod_eq_of_lt (Nat.lt_of_lt_of_le (lt_len (xg5 h)) (Nat.pow_le_pow_right (by decide) ?_))
 unfold Sa.nb
 omega
theorem Qy2 {x : Nat} (h : x < MM) (hn : neg? x = true) : negN (absN x) = x := by
 unfold absN
 rw [hn]
 dsimp only
 unfold negN
 have h1 : 2 ^ 2303 ≤ x := of_decide_eq_true hn
 have h0 : 0 < x := Nat.lt_of_lt_of_le (p0 2303) h1
 rw [Nat.mod_eq_of_lt (a := MM - x) (by omega), Nat.mod_eq_of_lt (by omega)]
 omega
theorem flags {a : Sa} (hz : a.ze ≤ 2) : (!decide (a.fl % 2 = 0)) = a.na /\ (!decide (a.fl / 2 % 2 = 0)) = a.pl /\ (!decide (a.fl / 4 % 2 = 0)) = a.mi /\ a.fl / 8 = a.ze := by
 obtain ⟨s, na, pl, mi, ze⟩ := a
 have hz : ze ≤ 2 := hz
 have : ze = 0 ∨ ze = 1 ∨ ze = 2 := by omega
 rcases this with rfl | rfl | rfl <;> cases na <;> cases pl <;> cases mi <;> simp [Sa.fl, b2n]
end Go.Nu
namespace Go.Arm
noncomputable section
open Go Go.X Go.Nu
theorem Rb.from {P : Program} {h : AH} {v : Value} {cs : List Value} {T el : TypeId} (H : Rb h v cs) (t : Cut h v cs.length) (hT : P.underlying T = some (.slice el)) (hk : szOf P el = some 1) {lo : Nat} (hlo : lo ≤ cs.length) (h0 : cs ≠ []) :
   ∃ a c, aSl P T v (some (.int .i64 (lo : Nat))) none none h = some (.slice a (cs.drop lo).length c) /\ Rb h (.slice a (cs.drop lo).length c) (cs.drop lo) /\ vb (.slice a (cs.drop lo).length c) = vb v := by
 have hn : cs.length ≠ 0 := fun e => h0 (List.length_eq_zero_iff.1 e)
 rcases t with h9 | ⟨b, o, nn, rfl, h2, h3, h4⟩
 . omega
 . rcases H with ⟨h1, _⟩ | ⟨b', o', c, _, h1, e, h5, h6⟩
   . exact (h0 h1).elim
   . cases e
     rw [List.length_drop]
     refine ⟨some ⟨b, o + lo, none⟩, u7, ?_, ?_, rfl⟩
     . have : aSlice P T (.slice (some ⟨b, o, none⟩) cs.length u7) (some (.int .i64 (lo : Nat))) none none h = some (.slice (some ⟨b, o + lo, none⟩) (cs.length - lo) u7) := by
         unfold aSlice
         rw [if_pos (show mxOk none none = true from rfl)]
         simp only [hT, hk, if_true]
         have e1 : bnd (some (.int .i64 (lo : Nat))) 0 = some lo := by unfold bnd; simp
         have e2 : bnd none cs.length = some cs.length := rfl
         simp only [e1, e2, h3]
         rw [if_pos ⟨hlo, trivial, .inl (Nat.le_refl _)⟩, Nat.mul_one]
       unfold aSl
       rw [this]
     . by_cases hz : cs.length - lo = 0
       . have hd : cs.drop lo = [] := List.drop_of_length_le (by omega)
         rw [hd, hz]
         exact .inl ⟨rfl, _, _, rfl, (fun e => by cases e), fun q hq => by cases hq; exact h5⟩
       . refine .inr ⟨b, o + lo, u7, fun e => ?_, qq2, by rw [List.length_drop], h5, fun j hj => ?_⟩
         . have := congrArg List.length e
           rw [List.length_drop] at this
           simp at this; omega
         . rw [List.length_drop] at hj
           rw [List.getElem?_drop, Nat.add_assoc]
           exact h6 (lo + j) (by omega)
section
variable {s ze z : Nat} {na pl mi v : Bool}
theorem Qu8 : (accL ⟨s, na, pl, mi, ze⟩).set 37 (.bool v) = accL ⟨s, v, pl, mi, ze⟩ := congrArg (List.cons _) yw4
theorem Qu7 : (accL ⟨s, na, pl, mi, ze⟩).set 38 (.bool v) = accL ⟨s, na, v, mi, ze⟩ := congrArg (List.cons _) yw3
theorem Qu9 : (accL ⟨s, na, pl, mi, ze⟩).set 39 (.bool v) = accL ⟨s, na, pl, v, ze⟩ := congrArg (List.cons _) yw5
theorem Qu6 : (accL ⟨s, na, pl, mi, ze⟩).set 40 (nv (z : Int)) = accL ⟨s, na, pl, mi, z⟩ := congrArg (List.cons _) yw2
end
theorem Qv0 {a : Sa} {x : Nat} : (accL a).take 1 ++ wl (word x) ++ (accL a).drop (1 + (wl (word x)).length) = accL { a with s := x } := by
 have e := qy6 (a := a) (x := x)
 rw [u5, Nat.zero_add] at e
 rw [u5, Nat.add_comm 1]
 show [Value.bool true] ++ wl (word x) ++ a.cells.drop 36 = .bool true :: _
 rw [<- e]
 rfl
section
variable {P : Program} {h : AH} {T : TypeId} {xo yo : Operand} {a b : Nat}
theorem zz6 (k : Nat) {m : Nat} (ha : a < 256) (hm : ∀ x : Fin 256, IntKind.u8.wrap (((BitVec.ofInt 8 (x.val : Int)) &&& (BitVec.ofInt 8 (m : Int))).toNat : Int) = ((x.val / 2 ^ k % 2 * 2 ^ k : Nat) : Int)) :
  aBin P .and T xo yo (.int .u8 (a : Int)) (.int .u8 (m : Int)) h = some (.int .u8 ((a / 2 ^ k % 2 * 2 ^ k : Nat) : Int)) := by
 have e : aBin P .and T xo yo (.int .u8 (a : Int)) (.int .u8 (m : Int)) h = some (.int .u8 (IntKind.u8.wrap (((BitVec.ofInt 8 (a : Int)) &&& (BitVec.ofInt 8 (m : Int))).toNat : Int))) := rfl
 rw [e, hm ⟨a, ha⟩]
theorem zg0 {c : Bool} (hc : (!decide (a = b)) = c) : aBin P .neq T xo yo (.int .u8 (a : Int)) (.int .u8 (b : Int)) h = some (.bool c) := by
 have e : aBin P .neq T xo yo (.int .u8 (a : Int)) (.int .u8 (b : Int)) h = some (.bool ((a : Int) != (b : Int))) := rfl
 rw [e, <- hc]
 congr 2
 by_cases hx : a = b
 . subst hx; simp
 . rw [decide_eq_false hx]; exact bne_iff_ne.2 (fun e => hx (Int.ofNat.inj e))
theorem eq_b8 {c : Bool} (hc : decide (a = b) = c) : aBin P .eql T xo yo (.int .u8 (a : Int)) (.int .u8 (b : Int)) h = some (.bool c) := by
 have e : aBin P .eql T xo yo (.int .u8 (a : Int)) (.int .u8 (b : Int)) h = some (.bool ((a : Int) == (b : Int))) := rfl
 rw [e, <- hc]
 congr 2
 by_cases hx : a = b
 . subst hx; simp
 . rw [decide_eq_false hx]; exact beq_eq_false_iff_ne.2 (fun e => hx (Int.ofNat.inj e))
end
theorem and_1 : ∀ x : Fin 256, IntKind.u8.wrap (((BitVec.ofInt 8 (x.val : Int)) &&& (BitVec.ofInt 8 ((1 : Nat) : Int))).toNat : Int) = ((x.val / 2 ^ 0 % 2 * 2 ^ 0 : Nat) : Int) := by decide +kernel
theorem and_2 : ∀ x : Fin 256, IntKind.u8.wrap (((BitVec.ofInt 8 (x.val : Int)) &&& (BitVec.ofInt 8 ((2 : Nat) : Int))).toNat : Int) = ((x.val / 2 ^ 1 % 2 * 2 ^ 1 : Nat) : Int) := by decide +kernel
theorem uv6 : ∀ x : Fin 256, IntKind.u8.wrap (((BitVec.ofInt 8 (x.val : Int)) &&& (BitVec.ofInt 8 ((4 : Nat) : Int))).toNat : Int) = ((x.val / 2 ^ 2 % 2 * 2 ^ 2 : Nat) : Int) := by decide +kernel
theorem fl_b (x k : Nat) : (!decide (x / 2 ^ k % 2 * 2 ^ k = 0)) = !decide (x / 2 ^ k % 2 = 0) := by
 congr 1
 rw [decide_eq_decide]
 constructor
 . intro h
   rcases Nat.mul_eq_zero.1 h with h | h
   . exact h
   . exact absurd h (Nat.pos_iff_ne_zero.1 (p0 k))
 . intro h; rw [h, Nat.zero_mul]
theorem neg_b (b : Bool) : decide (b2n b 1 = 1) = b := by cases b <;> rfl
theorem rfH_ok (h : AH) (n : Nat) (t : T Value) (ps : List Tmp) (asg body : Code) : Sm Nix h (rfH h n t ps asg body) /\ (rfH h n t ps asg body).m.get (h.next + 1) = some (lpO n t ps asg body) /\ (rfH h n t ps asg body).m.get h.next = some .dfr /\ (rfH h n t ps asg body).next = h.next + 2 := by
 refine ⟨(Sm.push h _).ext (.push _ _), ?_, ?_, rfl⟩
 . show ((h.m.set h.next _).set (h.next + 1) _).get (h.next + 1) = _
   rw [X.T.get_set, if_pos rfl]
 . show ((h.m.set h.next _).set (h.next + 1) _).get h.next = _
   rw [X.T.get_set, if_neg (by omega), X.T.get_set, if_pos rfl]
end
end Go.Arm
namespace Go.Proofs.YtjealfplbigphaaGreat
noncomputable section
open Go Go.X Go.Arm Go.Mt Go.Nu
theorem uv2 {h : AH} {ts : T Value} {l b1 b4 b9 b n x ze : Nat} {na pl mi : Bool} {sv v2 : Value} (y1 : fr ts 1 = ptr b1) (y4 : fr ts 4 = ptr b4) (hlen : ∀ h', aLen Tryz.prog 23 sv h' = some (nv ((n + 2 : Nat) : Int))) (hlen2 : ∀ h', aLen Tryz.prog 23 v2 h' = some (nv (n : Int))) (hn : n ≤ 280) (n1 : b1 ≠ b) (n4 : b4 ≠ b) (m0 : l ≠ b) (m1 : l ≠ b1) (m4 : l ≠ b4) (n9 : b9 ≠ b) (m9 : l ≠ b9)
  (HV : Rb h v2 ((encB x n).map bv)) (hv : ∀ q, vb v2 = some q -> q ≠ b /\ q ≠ l) (c900 : Arm.Cl h b (accL ⟨0, na, pl, mi, ze⟩)) (c1 : Arm.Cl h b1 [sv]) (c4 : Arm.Cl h b4 [ptr b]) (c9 : Arm.Cl h b9 [v2]) (hl : h.m.get l = some (lpO 135 ts [58, 59] decA decB)) (hll : l < h.next) :
  Arm.Calls Tryz.prog 58 [yv l, ptr b9] h (fun r => r.2.m.get l = some (lpO 135 ts [58, 59] decA decB) /\ Arm.Cl r.2 b (accL ⟨x % 2 ^ (8 * (n)), na, pl, mi, ze⟩) /\ Sm (fun q => q = b ∨ q = l) h r.2) := by
 refine Q5 (n := 19) (fn := Tryz.f58) kr rfl rfl (Nat.le_of_ble_eq_true rfl) trivial ⟨.inl (fun e => by cases e), rfl⟩ ?_
 have T0 : Sm (fun q => q = b ∨ q = l) h h := .refl
 refine q7 (q6 (z9 _ rfl rfl kr (c9.ld (o := 0) kr rfl) (V4 _ rfl rfl kr (hlen2 _) (L_i ((n : Int)) (1) (.int .i64 ((n : Int) - 1)) rfl rfl kr kr rfl (decI (by omega)) (L_g 1 kr (q5 (u3 ?_)))))))
 refine J5 (fun mm fr hh => ∃ (i : Nat) (kk : Int), (i ≤ n) /\ (kk = (i : Int) - 1) /\ (hh.m.get l = some (lpO 135 ts [58, 59] decA decB)) /\ mm = i /\ fr 0 = yv l /\ fr 1 = ptr b9 /\ fr 3 = .int .i64 kk /\ Sm (fun q => q = b ∨ q = l) h hh /\ Cl hh (b) (accL ⟨x % 2 ^ (8 * (n - i)), na, pl, mi, ze⟩) /\ Cl hh (b1) [sv] /\ Cl hh (b4) [ptr b] /\ Cl hh (b9) [v2]) (n) ?_ ?_
 ·
  have e0 : x % 2 ^ (8 * (n - n)) = 0 := by rw [Nat.sub_self, Nat.mul_zero, Nat.pow_zero, Nat.mod_one]
  replace c900 : Arm.Cl h b (accL ⟨x % 2 ^ (8 * (n - n)), na, pl, mi, ze⟩) := by rw [e0]; exact c900
  exact ⟨n, _, (Nat.le_refl _), rfl, hl, rfl, kr, kr, kr, T0, c900, c1, c4, c9⟩
 rintro mm108 fr108 h108 ⟨i, kk, hi, hk, hl, hm108, y108_0, y108_1, y108_3, T108, c900, c1, c4, c9⟩
 have N108 := T108.nx
 have B108_acc := c900.lt
 have B108_x1 := c1.lt
 have B108_x4 := c4.lt
 have B108_x9 := c9.lt
 refine j8 (k := 0) y108_0 (j8 (k := 1) y108_1 (j8 (k := 3) y108_3 (q7 (z1 1 kr (L_i (kk) (0) (.bool (decide ((0 : Int) ≤ kk))) rfl rfl kr kr rfl (rfl) (q5 ?_))))))
 refine Q0 (decide ((0 : Int) ≤ kk)) kr (fun hb => ?_) (fun hb => ?_)
 ·
  have hk0 : 0 ≤ kk := by simpa using hb
  obtain ⟨j, rfl⟩ : ∃ j : Nat, kk = j := ⟨i - 1, by omega⟩
  obtain rfl : i = j + 1 := by omega
  have hx : ((encB x n).map bv)[j]? = some (.int .u8 (byt x (n - 1 - j) : Int)) := by rw [List.getElem?_map, Qj2 (by omega)]; exact congrArg some (zg8 (zv9 _ _))
  obtain ⟨be, oe, ie, le, _, hbe⟩ := zw5 (P := Tryz.prog) (T := 23) (el := 5) kr kr kr HV hx
  rw [show n - (j + 1) = n - 1 - j by omega] at c900
  refine z6 (q7 (u3 (z1 2 kr (z9 _ rfl rfl kr (c9.ld (o := 0) kr rfl) (L_g 1 kr (Z8 _ rfl rfl kr kr (ie) (z9 _ rfl rfl kr (le _ _ T108 (fun e => e.elim (hv _ hbe).1 (hv _ hbe).2)) ?_)))))))
  have HR := Qj6 (k := n - 1 - j) (x := x) (n := n) y1 y4 hlen (by omega) hn n1 n4 m0 m1 m4 c900 c1 c4 hl (Nat.lt_of_lt_of_le hll (T108).nx)
  rw [show n - 1 - (n - 1 - j) = j by omega] at HR
  refine Qv2 (l := l) rfl kr kr (args := [nv (j : Int), .int .u8 (byt x (n - 1 - j) : Int)]) kr hl ⟨rfl, kr⟩ HR ?_
  rintro v109 h109 ⟨e109, d109, g109, t109⟩
  dsimp only at e109 d109 g109 t109
  subst e109
  rw [show n - 1 - j + 1 = n - j by omega] at d109
  replace c900 := c900
  replace c1 := c1
  replace c4 := c4
  replace c9 := c9
  have T109 : Sm (fun q => q = b ∨ q = l) h h109 := T108.trans t109 (fun x hx => .inl hx)
  have N109 := T109.nx
  replace c900 := d109
  replace c1 := c1.sm t109 (fun e => e.elim n1 (fun q => m1 q.symm))
  replace c4 := c4.sm t109 (fun e => e.elim n4 (fun q => m4 q.symm))
  replace c9 := c9.sm t109 (fun e => e.elim n9 (fun q => m9 q.symm))
  refine L_g 1 kr (q5 (Q2 kr (z6 (Z3 1 kr (L_i ((j : Int)) (1) (.int .i64 ((j : Int) - 1)) rfl rfl kr kr rfl (decI (by omega)) (L_g 1 kr (q5 ?_)))))))
  exact ⟨j, by omega, j, (j : Int) - 1, by omega, rfl, g109, rfl, kr, kr, kr, T109, c900, c1, c4, c9⟩
 ·
  have hk0 : ¬ 0 ≤ kk := by simpa using hb
  obtain rfl : i = 0 := by omega
  rw [Nat.sub_zero] at c900
  refine J8 ?_
  refine rx ?_
  refine Q7 ?_
  repeat with_reducible refine Q9 ?_
  refine z0 (v := .tuple ⟨[]⟩) (.inr rfl) kr ?_
  exact ⟨hl, c900, T108⟩
end
end Go.Proofs.YtjealfplbigphaaGreat
namespace Go.Proofs.YtjealfplbigphaaGreat
noncomputable section
open Go Go.X Go.Arm Go.Mt Go.Nu
theorem neq_z {h : AH} {xo yo : Operand} : aBin Tryz.prog .neq 81 xo yo (.agg ⟨(Sa.cells ⟨0, false, false, false, 1⟩)⟩) (.agg ⟨(Sa.cells ⟨0, false, false, false, 1⟩)⟩) h = some (.bool false) := by kernel_rfl
theorem jj8 {h : AH} {sv : Value} {a : Sa} (H : Rb h sv (a.enc.map bv)) (HC : Cut h sv (a.enc.map bv).length) (hs : a.s < MM) (hl9 : lenN (absN a.s) ≤ 2240) (hz : a.ze = 2 ∨ a = ⟨0, false, false, false, 1⟩) :
  Arm.Calls Tryz.prog 15 [sv] h (fun r => ∃ b, r.1 = .tuple ⟨[ptr b, nv 0]⟩ /\ h.next ≤ b /\ Arm.Cl r.2 b (accL a) /\ Sm Nix h r.2) := by
 have hz2 : a.ze ≤ 2 := by
  rcases hz with e | e
  . omega
  . rw [e]; decide
 have hn : a.nb ≤ 280 := by unfold Sa.nb; omega
 have hL : (a.enc.map bv).length = a.nb + 2 := by rw [List.length_map, qz4]
 have hne : a.enc.map bv ≠ [] := fun e => by rw [e] at hL; simp at hL
 have hfl := fl_lt hz2
 obtain ⟨fl1, fl2, fl3, fl4⟩ := flags hz2
 obtain ⟨sa, L, sc, rfl⟩ : ∃ sa L sc, sv = .slice sa L sc := by obtain ⟨x, y, e⟩ := H.form; exact ⟨x, _, y, e⟩
 have hlen : ∀ h', aLen Tryz.prog 23 (.slice sa L sc) h' = some (nv ((a.nb + 2 : Nat) : Int)) := fun h' => by rw [H.lenA (T := 23) (el := 5) kr h', hL]; rfl
 have hlen2 : ∀ va vc h', aLen Tryz.prog 23 (.slice va ((a.enc.map bv).drop 2).length vc) h' = some (nv (a.nb : Int)) := fun va vc h' => by
  rw [show ((a.enc.map bv).drop 2).length = a.nb by rw [List.length_drop, hL]; rfl]
  kernel_rfl
 obtain ⟨b0, o0, i0, l0, _, _⟩ := zw5 (P := Tryz.prog) (T := 23) (el := 5) kr kr kr H (i := 0) (x := .int .u8 (a.fl : Int)) (congrArg some (zg8 hfl))
 obtain ⟨b01, o1, i1, l1, _, _⟩ := zw5 (P := Tryz.prog) (T := 23) (el := 5) kr kr kr H (i := 1) (x := .int .u8 (b2n (neg? a.s) 1 : Int)) (congrArg some (zg8 (by have := qu4 (neg? a.s) 1; omega)))
 refine xq3 (n := 135) (fn := Tryz.f15) kr rfl rfl (Nat.le_of_ble_eq_true rfl) trivial ⟨.inl (fun e => by cases e), rfl⟩ ?_
 have T0 : Sm Nix h h := .refl
 refine yx4 (q6 (Q1 [.slice sa L sc] .ptr rfl rfl kr fun h110 c110 t110 n110 => ?_))
 have T110 := T0.ext t110
 have N110 := T110.nx
 refine L_g 2 kr (q5 (yx4 (u3 (q7 (q6 (z9 _ rfl rfl kr (c110.ld (o := 0) kr rfl) (V4 _ rfl rfl kr (hlen _) (L_i (((a.nb + 2 : Nat) : Int)) (282) (.bool false) rfl rfl kr kr rfl (congrArg Value.bool (decide_eq_false (by omega))) (L_g 1 kr (q5 ?_))))))))))
 try refine Q4 ?_
 refine Q2 kr (q7 (q6 (z9 _ rfl rfl kr (c110.ld (o := 0) kr rfl) (V4 _ rfl rfl kr (hlen _) (L_i (((a.nb + 2 : Nat) : Int)) (2) (.bool false) rfl rfl kr kr rfl (congrArg Value.bool (decide_eq_false (by omega))) (L_g 1 kr (q5 ?_)))))))
 try refine Q4 ?_
 refine Q2 kr (z6 (yx4 (q6 (L_c rfl rfl kr (yx1) ?_))))
 rintro v111 h111 ⟨ba, e111, hba, c900, t111⟩
 dsimp only at e111 hba c900 t111
 subst e111
 have hba0 : h.next ≤ ba := Nat.le_trans (T110).nx hba
 replace c110 := c110.ext t111
 have T111 := T110.ext t111
 have N111 := T111.nx
 have lba := c900.lt
 refine Q1 [.pointer none] .ptr rfl rfl kr fun h112 c112 t112 n112 => ?_
 replace c110 := c110.ext t112
 replace c900 := c900.ext t112
 have T112 := T111.ext t112
 have N112 := T112.nx
 obtain ⟨h113, e113, d113, t113, n113⟩ := c112.s1 40 0 (ptr ba)
 replace d113 : Cl h113 (h111.next) [ptr ba] := d113
 replace c110 := c110.sn t113
 replace c900 := c900.sn t113
 replace c112 := d113
 have T113 := T112.tr t113
 have N113 := T113.nx
 refine Q3 _ rfl rfl rfl kr kr (e113) (q5 (yx4 (u4 kr (D_e (e := 27) (l := [0,1,2,3,4,5,6,7,8,9,10,11,12,13,14,15,16,17,18,19,20,21,22,23,24,25,26]) (s' := [1,2,3,12,13,17,18,22,23]) kr kr rfl kr z4 (q9 _ rfl rfl kr kr kr (c112.ld (o := 0) kr rfl) (q9 _ rfl rfl kr kr kr (c112.ld (o := 0) kr rfl) (q9 _ rfl rfl kr kr kr (c112.ld (o := 0) kr rfl) (q9 _ rfl rfl kr kr kr (c112.ld (o := 0) kr rfl) (q9 _ rfl rfl kr kr kr (c110.ld (o := 0) kr rfl) (U0 _ rfl rfl kr kr kr kr (i0) (q9 _ rfl rfl kr kr kr (l0 _ _ T113 (fun x => x)) ?_)))))))))))
 refine U8 (.int .u8 ((a.fl / 2 ^ 0 % 2 * 2 ^ 0 : Nat) : Int)) rfl kr rfl kr (ev_bin (o := _) rfl kr kr (zz6 (m := 1) 0 hfl and_1)) (U8 (.bool a.na) rfl kr rfl kr (ev_bin (o := _) rfl kr kr (zg0 (b := 0) ((fl_b _ 0).trans ((by rw [Nat.pow_zero, Nat.div_one]; exact fl1))))) (q9 _ rfl rfl kr kr kr (c110.ld (o := 0) kr rfl) (U0 _ rfl rfl kr kr kr kr (i0) (q9 _ rfl rfl kr kr kr (l0 _ _ T113 (fun x => x)) (U8 (.int .u8 ((a.fl / 2 ^ 1 % 2 * 2 ^ 1 : Nat) : Int)) rfl kr rfl kr (ev_bin (o := _) rfl kr kr (zz6 (m := 2) 1 hfl and_2)) (U8 (.bool a.pl) rfl kr rfl kr (ev_bin (o := _) rfl kr kr (zg0 (b := 0) ((fl_b _ 1).trans (fl2)))) (q9 _ rfl rfl kr kr kr (c110.ld (o := 0) kr rfl) (U0 _ rfl rfl kr kr kr kr (i0) (q9 _ rfl rfl kr kr kr (l0 _ _ T113 (fun x => x)) (U8 (.int .u8 ((a.fl / 2 ^ 2 % 2 * 2 ^ 2 : Nat) : Int)) rfl kr rfl kr (ev_bin (o := _) rfl kr kr (zz6 (m := 4) 2 hfl uv6)) (U8 (.bool a.mi) rfl kr rfl kr (ev_bin (o := _) rfl kr kr (zg0 (b := 0) ((fl_b _ 2).trans (fl3)))) ?_)))))))))))
 refine q9 _ rfl rfl kr kr kr (c110.ld (o := 0) kr rfl) (U0 _ rfl rfl kr kr kr kr (i0) (q9 _ rfl rfl kr kr kr (l0 _ _ T113 (fun x => x)) (U8 (.int .u8 (a.ze : Int)) rfl kr rfl kr (ev_bin (o := _) rfl kr kr ((xv1 (k := .u64) (s := 3) (by decide)).trans (by rw [<- fl4]))) (U8 (nv (a.ze : Int)) rfl kr rfl kr (ev_conv (o := _) rfl kr (K3 (by omega))) (z2 3 kr (z5 ?_))))))
 obtain ⟨h114, e114, d114, t114, n114⟩ := c900.store (P := Tryz.prog) (T := 4) (o := 37) (v := .bool a.na) kr rfl rfl (by rw [Z1]; decide)
 rw [Qu8] at d114
 replace c110 := c110.sn t114
 replace c112 := c112.sn t114
 replace c900 := d114
 have T114 := T113.tr t114
 have N114 := T114.nx
 refine Q3 _ rfl rfl rfl kr kr (e114) ?_
 refine q5 ⟨rfl, ?_⟩
 refine D_e (e := 31) (l := [28,29,30]) (s' := [2,3,17,18,22,23]) kr kr rfl kr (u6 _ rfl rfl rfl kr (c112.ld (o := 0) kr rfl) kr (u6 _ rfl rfl rfl kr (c112.ld (o := 0) kr rfl) kr (u6 _ rfl rfl rfl kr (c112.ld (o := 0) kr rfl) kr (V8 (v := (.int .u8 ((a.fl / 2 ^ 1 % 2 * 2 ^ 1 : Nat) : Int))) rfl rfl (ev_bin (o := _) rfl kr kr (zz6 (m := 2) 1 hfl and_2)) kr (V8 (v := (.bool a.pl)) rfl rfl (ev_bin (o := _) rfl kr kr (zg0 (b := 0) ((fl_b _ 1).trans (fl2)))) kr (V8 (v := (.int .u8 ((a.fl / 2 ^ 2 % 2 * 2 ^ 2 : Nat) : Int))) rfl rfl (ev_bin (o := _) rfl kr kr (zz6 (m := 4) 2 hfl uv6)) kr (V8 (v := (.bool a.mi)) rfl rfl (ev_bin (o := _) rfl kr kr (zg0 (b := 0) ((fl_b _ 2).trans (fl3)))) kr (V8 (v := (.int .u8 (a.ze : Int))) rfl rfl (ev_bin (o := _) rfl kr kr ((xv1 (k := .u64) (s := 3) (by decide)).trans (by rw [<- fl4]))) kr (V8 (v := (nv (a.ze : Int))) rfl rfl (ev_conv (o := _) rfl kr (K3 (by omega))) kr z4))))))))) (z2 3 kr (z5 ?_))
 obtain ⟨h115, e115, d115, t115, n115⟩ := c900.store (P := Tryz.prog) (T := 4) (o := 38) (v := .bool a.pl) kr rfl rfl (by rw [Z1]; decide)
 rw [Qu7] at d115
 replace c110 := c110.sn t115
 replace c112 := c112.sn t115
 replace c900 := d115
 have T115 := T114.tr t115
 have N115 := T115.nx
 refine Q3 _ rfl rfl rfl kr kr (e115) ?_
 refine q5 ⟨rfl, ?_⟩
 refine D_e (e := 35) (l := [32,33,34]) (s' := [3,22,23]) kr kr rfl kr (u6 _ rfl rfl rfl kr (c112.ld (o := 0) kr rfl) kr (u6 _ rfl rfl rfl kr (c112.ld (o := 0) kr rfl) kr (V8 (v := (.int .u8 ((a.fl / 2 ^ 2 % 2 * 2 ^ 2 : Nat) : Int))) rfl rfl (ev_bin (o := _) rfl kr kr (zz6 (m := 4) 2 hfl uv6)) kr (V8 (v := (.bool a.mi)) rfl rfl (ev_bin (o := _) rfl kr kr (zg0 (b := 0) ((fl_b _ 2).trans (fl3)))) kr (V8 (v := (.int .u8 (a.ze : Int))) rfl rfl (ev_bin (o := _) rfl kr kr ((xv1 (k := .u64) (s := 3) (by decide)).trans (by rw [<- fl4]))) kr (V8 (v := (nv (a.ze : Int))) rfl rfl (ev_conv (o := _) rfl kr (K3 (by omega))) kr z4)))))) (z2 3 kr (z5 ?_))
 obtain ⟨h116, e116, d116, t116, n116⟩ := c900.store (P := Tryz.prog) (T := 4) (o := 39) (v := .bool a.mi) kr rfl rfl (by rw [Z1]; decide)
 rw [Qu9] at d116
 replace c110 := c110.sn t116
 replace c112 := c112.sn t116
 replace c900 := d116
 have T116 := T115.tr t116
 have N116 := T116.nx
 refine Q3 _ rfl rfl rfl kr kr (e116) ?_
 refine q5 ⟨rfl, ?_⟩
 refine D_e (e := 39) (l := [36,37,38]) (s' := []) kr kr rfl kr (u6 _ rfl rfl rfl kr (c112.ld (o := 0) kr rfl) kr (V8 (v := (.int .u8 (a.ze : Int))) rfl rfl (ev_bin (o := _) rfl kr kr ((xv1 (k := .u64) (s := 3) (by decide)).trans (by rw [<- fl4]))) kr (V8 (v := (nv (a.ze : Int))) rfl rfl (ev_conv (o := _) rfl kr (K3 (by omega))) kr z4))) (z2 3 kr (z5 ?_))
 obtain ⟨h117, e117, d117, t117, n117⟩ := c900.store (P := Tryz.prog) (T := 3) (o := 40) (v := nv (a.ze : Int)) kr rfl rfl (by rw [Z1]; decide)
 rw [Qu6] at d117
 replace c110 := c110.sn t117
 replace c112 := c112.sn t117
 replace c900 := d117
 have T117 := T116.tr t117
 have N117 := T117.nx
 refine Q3 _ rfl rfl rfl kr kr (e117) ?_
 refine q5 ⟨rfl, ?_⟩
 refine D_l (l := []) kr kr z4 (z5 (Wx_rf (q6 (z9 _ rfl rfl kr (c110.ld (o := 0) kr rfl) ?_))))
 obtain ⟨va, vc, e2, HV, hvb⟩ := Rb.from (P := Tryz.prog) (T := 23) (el := 5) (H.ext T117) (HC.sm T117 (fun _ _ x => x)) kr kr (lo := 2) (by omega) hne
 refine xu2 _ rfl rfl kr kr kr kr (e2) (L_c rfl rfl kr (yg3 (a := va) (n := ((a.enc.map bv).drop 2).length) (c := vc)) ?_)
 rintro v118 h118 ⟨b9, e118, hb9, c9, t118⟩
 dsimp only at e118 hb9 c9 t118
 subst e118
 replace HV := HV.ext t118
 replace c110 := c110.ext t118
 replace c900 := c900.ext t118
 replace c112 := c112.ext t118
 have T118 := T117.ext t118
 have N118 := T118.nx
 refine q5 ?_
 intro t0 ht0
 have y1 : fr t0 1 = ptr (h.next) := by rw [ht0]; kernel_rfl
 have y4 : fr t0 4 = ptr (h111.next) := by rw [ht0]; kernel_rfl
 have l1' := c110.lt
 have l4' := c112.lt
 have l9' := c9.lt
 have lba' := c900.lt
 obtain ⟨tr, gl, gd, nr⟩ := rfH_ok h118 135 t0 [58, 59] decA decB
 have hvq : ∀ q, vb (.slice va ((a.enc.map bv).drop 2).length vc) = some q -> q ≠ ba /\ q ≠ h118.next + 1 := fun q hq => by have := H.lt (hvb.symm.trans hq); have := T118.nx; omega
 have HY := uv2 (h := rfH h118 135 t0 [58, 59] decA decB) (n := a.nb) (x := absN a.s) (na := a.na) (pl := a.pl) (mi := a.mi) (ze := a.ze) y1 y4 hlen (hlen2 va vc) (by omega) (by omega) (by omega) (by omega) (by omega) (by omega) (by omega) (by omega) (HV.ext tr) hvq (c900.ext tr) (c110.ext tr) (c112.ext tr) (c9.ext tr) gl (by omega)
 refine rf_ok (g := 58) (first := []) (cap := [ptr b9]) (args := [yv (h118.next + 1), ptr b9]) (by rw [ht0]; kernel_rfl) rfl rfl (fun _ => by kernel_rfl) HY kr ?_
 rintro v8 h8 ⟨c8, t8⟩ hz9 tz nz
 dsimp only at c8 t8
 rw [ht0]
 have gd8 : h8.m.get h118.next = some .dfr := (t8.get _ (by omega) (fun e => by rcases e with e | e <;> omega)).trans gd
 have n8 := t8.nx
 have NTn := T118.nx
 have hdd : hz9.m.get h118.next = some .dfr := (tz.get _ (by omega) (show ¬ _ = _ by omega)).trans gd8
 have Tz : Sm Nix h hz9 := ((T118.ext tr).trans t8 (fun q hq => .inr (by rcases hq with e | e <;> omega))).trans tz (fun q hq => .inr (by have hq : q = h118.next + 1 := hq; omega))
 have Uz : Sm (fun q => q = ba) hz9 hz9 := .refl
 have NTz := Tz.nx
 replace c900 := c8.sn tz
 rw [abs_nb hs] at c900
 replace c110 := ((c110.ext tr).sm t8 (fun e => by rcases e with e | e <;> omega)).sm tz (show ¬ _ = _ by omega)
 replace c112 := ((c112.ext tr).sm t8 (fun e => by rcases e with e | e <;> omega)).sm tz (show ¬ _ = _ by omega)
 refine q7 (q7 (q6 (z9 _ rfl rfl kr (c110.ld (o := 0) kr rfl) (Z8 _ rfl rfl kr kr (i1) (z9 _ rfl rfl kr (l1 _ _ Tz (fun x => x)) (L_p (.bool (neg? a.s)) rfl (ev_bin (o := _) rfl kr kr (eq_b8 (a := b2n (neg? a.s) 1) (b := 1) (neg_b _))) (q5 ?_)))))))
 try refine Q4 ?_
 refine Q0 (neg? a.s) kr (fun hb => ?_) (fun hb => ?_)
 ·
  refine u4 kr (D_e (e := 6) (l := [0,1,2,3,4,5]) (s' := [0]) kr kr rfl kr z4 (q9 _ rfl rfl kr kr kr (c112.ld (o := 0) kr rfl) (q9 _ rfl rfl kr kr kr (c112.ld (o := 0) kr rfl) (z2 3 kr (q9 _ rfl rfl kr kr kr ((Cl.ldS (o := 1) (k := 36) c900 kr (by rw [Z1]; decide)).trans (by rw [E6])) (z5 (L_c rfl rfl kr (yz2 (X := absN a.s) (xg5 hs)) ?_)))))))
  rintro v119 h119 ⟨e119, t119⟩
  try dsimp only at e119 t119
  subst e119
  replace c900 := c900.ext t119
  replace c110 := c110.ext t119
  replace c112 := c112.ext t119
  have T119 := Tz.ext t119
  have U119 : Sm (fun q => q = ba) hz9 h119 := Uz.ext t119
  have N119 := T119.nx
  have NU119 := U119.nx
  have M119 := t119.nx
  refine q5 ⟨rfl, ?_⟩
  refine D_e (e := 10) (l := [7,8,9]) (s' := []) kr kr rfl kr (u6 _ rfl rfl rfl kr (c112.ld (o := 0) kr rfl) kr z4) (z2 3 kr (z5 ?_))
  obtain ⟨h120, e120, d120, t120, n120⟩ := Cl.storeAt (P := Tryz.prog) (T := 79) (o := 1) (v := .agg ⟨wl (word (negN (absN a.s)))⟩) (vs := wl (word (negN (absN a.s)))) c900 (by rw [u5]; kernel_rfl) rfl (by rw [u5, Z1]; decide) K7
  rw [Qv0] at d120
  replace c110 := c110.sn t120
  replace c112 := c112.sn t120
  replace c900 := d120
  have T120 := T119.tr t120
  have U120 : Sm (fun q => q = ba) hz9 h120 := U119.tr t120
  have N120 := T120.nx
  have NU120 := U120.nx
  refine Q3 _ rfl rfl rfl kr kr (e120) ?_
  rw [Qy2 hs hb] at c900
  refine q5 ⟨rfl, ?_⟩
  refine D_l (l := []) kr kr z4 (z5 ?_)
  try refine Q4 ?_
  refine q7 (q7 ?_)
  replace c900 : Arm.Cl h120 ba (accL a) := c900
  rcases hz with hz | hz
  ·
    refine u4 kr (D_l (l := [0,1,2,3,4,5,6,7,8,9,10,11,12,13,14,15,16,17,18,19,20,21,22,23,24,25,26]) kr kr z4 (q9 _ rfl rfl kr kr kr (c112.ld (o := 0) kr rfl) (z2 3 kr (q9 _ rfl rfl kr kr kr (c900.ld (o := 40) kr J9) (J3 ((a.ze : Int)) (2) (.bool false) rfl rfl kr kr kr kr rfl (congrArg Value.bool (decide_eq_false (by omega))) (z2 1 kr (q9 _ rfl rfl kr kr kr (c112.ld (o := 0) kr rfl) (z2 3 kr (q9 _ rfl rfl kr kr kr (c900.ld (o := 40) kr J9) (J3 ((a.ze : Int)) (2) (.bool false) rfl rfl kr kr kr kr rfl (congrArg Value.bool (decide_eq_false (by omega))) (z2 14 kr ?_)))))))))))
    refine z5 ?_
    try refine Q4 ?_
    refine Q2 kr (z6 ?_)
    try refine Q4 ?_
    refine q7 (q7 (q6 (z9 _ rfl rfl kr (c112.ld (o := 0) kr rfl) (L_c rfl rfl kr (qy4 c900 hs hz2 hl9) ?_))))
    rintro v121 h121 ⟨se, e121, BE, t121, fe⟩
    dsimp only at e121 BE t121
    subst e121
    replace c900 := c900.ext t121
    replace c110 := c110.ext t121
    replace c112 := c112.ext t121
    have T121 := T120.ext t121
    have N121 := T121.nx
    have U121 : Sm (fun q => q = ba) hz9 h121 := U120.ext t121
    have NU121 := U121.nx
    refine L_g 5 kr (q5 ?_)
    try refine Q4 ?_
    refine z1 1 kr (z9 _ rfl rfl kr (c110.ld (o := 0) kr rfl) (L_c rfl rfl kr (qg5 BE.rb (H.ext T121) (by rw [qz4]; omega)) ?_))
    rintro v122 h122 ⟨e122, t122⟩
    try dsimp only at e122 t122
    subst e122
    replace c900 := c900.ext t122
    replace c112 := c112.ext t122
    have T122 := T121.ext t122
    have U122 : Sm (fun q => q = ba) hz9 h122 := U121.ext t122
    have N122 := T122.nx
    have NU122 := U122.nx
    have M122 := t122.nx
    refine L_g 1 kr (q5 ?_)
    try refine Q4 ?_
    refine Q2 kr (z6 ?_)
    try refine Q4 ?_
    refine q7 (q6 (z9 _ rfl rfl kr (c112.ld (o := 0) kr rfl) (L_g 2 kr (q5 ?_))))
    try refine Q4 ?_
    refine j7 ?_
    refine rr ?_
    have hdz := (U122.get h118.next (by omega) (show ¬ _ = _ by omega)).trans hdd
    refine qg8 (v := .tuple ⟨[ptr ba, nv 0]⟩) (.inl rfl) (qv3 hdz) kr ?_
    have lz := T122.nx
    exact ⟨ba, rfl, hba0, c900.sm (Sm.drop1 _ _) (show ¬ _ = _ by omega), T122.trans (Sm.drop1 _ _) (fun q hq => .inr (by have hq : q = h118.next := hq; omega))⟩
  ·
    subst hz
    refine u4 kr (D_l (l := [0,1,2,3,4,5,6,7,8,9,10,11,12,13,14,15,16,17,18,19,20,21,22,23,24,25,26]) kr kr z4 (q9 _ rfl rfl kr kr kr (c112.ld (o := 0) kr rfl) (z2 3 kr (q9 _ rfl rfl kr kr kr (c900.ld (o := 40) kr J9) (J3 (1) (2) (.bool false) rfl rfl kr kr kr kr rfl (congrArg Value.bool (decide_eq_false (by decide))) (z2 1 kr (q9 _ rfl rfl kr kr kr (c112.ld (o := 0) kr rfl) (z2 3 kr (q9 _ rfl rfl kr kr kr (c900.ld (o := 40) kr J9) (J3 (1) (2) (.bool true) rfl rfl kr kr kr kr rfl (congrArg Value.bool (decide_eq_true (by decide))) (z2 1 kr ?_)))))))))))
    refine q9 _ rfl rfl kr kr kr (c112.ld (o := 0) kr rfl) (z2 2 kr (q9 _ rfl rfl kr kr kr ((Cl.ldS (o := 1) (k := 40) c900 kr (by rw [Z1]; decide)).trans (by rw [xj3])) (q9 _ rfl rfl kr kr kr (c112.ld (o := 0) kr rfl) (z2 3 kr (q9 _ rfl rfl kr kr kr (c900.ld (o := 40) kr J9) (U8 (.agg ⟨(Sa.cells ⟨0, false, false, false, 1⟩)⟩) rfl kr rfl kr kr (U8 (.bool false) rfl kr rfl kr (ev_bin (o := _) rfl kr kr neq_z) (z2 2 kr (z5 ?_)))))))))
    try refine Q4 ?_
    refine Q2 kr (z6 ?_)
    try refine Q4 ?_
    refine q7 (q7 (q6 (z9 _ rfl rfl kr (c112.ld (o := 0) kr rfl) (L_c rfl rfl kr (qy4 c900 hs hz2 hl9) ?_))))
    rintro v123 h123 ⟨se, e123, BE, t123, fe⟩
    dsimp only at e123 BE t123
    subst e123
    replace c900 := c900.ext t123
    replace c110 := c110.ext t123
    replace c112 := c112.ext t123
    have T123 := T120.ext t123
    have N123 := T123.nx
    have U123 : Sm (fun q => q = ba) hz9 h123 := U120.ext t123
    have NU123 := U123.nx
    refine L_g 5 kr (q5 ?_)
    try refine Q4 ?_
    refine z1 1 kr (z9 _ rfl rfl kr (c110.ld (o := 0) kr rfl) (L_c rfl rfl kr (qg5 BE.rb (H.ext T123) (by rw [qz4]; omega)) ?_))
    rintro v124 h124 ⟨e124, t124⟩
    try dsimp only at e124 t124
    subst e124
    replace c900 := c900.ext t124
    replace c112 := c112.ext t124
    have T124 := T123.ext t124
    have U124 : Sm (fun q => q = ba) hz9 h124 := U123.ext t124
    have N124 := T124.nx
    have NU124 := U124.nx
    have M124 := t124.nx
    refine L_g 1 kr (q5 ?_)
    try refine Q4 ?_
    refine Q2 kr (z6 ?_)
    try refine Q4 ?_
    refine q7 (q6 (z9 _ rfl rfl kr (c112.ld (o := 0) kr rfl) (L_g 2 kr (q5 ?_))))
    try refine Q4 ?_
    refine j7 ?_
    refine rr ?_
    have hdz := (U124.get h118.next (by omega) (show ¬ _ = _ by omega)).trans hdd
    refine qg8 (v := .tuple ⟨[ptr ba, nv 0]⟩) (.inl rfl) (qv3 hdz) kr ?_
    have lz := T124.nx
    exact ⟨ba, rfl, hba0, c900.sm (Sm.drop1 _ _) (show ¬ _ = _ by omega), T124.trans (Sm.drop1 _ _) (fun q hq => .inr (by have hq : q = h118.next := hq; omega))⟩
 ·
  rw [uk4 hb] at c900
  refine z6 ?_
  try refine Q4 ?_
  refine q7 (q7 ?_)
  replace c900 : Arm.Cl hz9 ba (accL a) := c900
  rcases hz with hz | hz
  ·
    refine u4 kr (D_l (l := [0,1,2,3,4,5,6,7,8,9,10,11,12,13,14,15,16,17,18,19,20,21,22,23,24,25,26]) kr kr z4 (q9 _ rfl rfl kr kr kr (c112.ld (o := 0) kr rfl) (z2 3 kr (q9 _ rfl rfl kr kr kr (c900.ld (o := 40) kr J9) (J3 ((a.ze : Int)) (2) (.bool false) rfl rfl kr kr kr kr rfl (congrArg Value.bool (decide_eq_false (by omega))) (z2 1 kr (q9 _ rfl rfl kr kr kr (c112.ld (o := 0) kr rfl) (z2 3 kr (q9 _ rfl rfl kr kr kr (c900.ld (o := 40) kr J9) (J3 ((a.ze : Int)) (2) (.bool false) rfl rfl kr kr kr kr rfl (congrArg Value.bool (decide_eq_false (by omega))) (z2 14 kr ?_)))))))))))
    refine z5 ?_
    try refine Q4 ?_
    refine Q2 kr (z6 ?_)
    try refine Q4 ?_
    refine q7 (q7 (q6 (z9 _ rfl rfl kr (c112.ld (o := 0) kr rfl) (L_c rfl rfl kr (qy4 c900 hs hz2 hl9) ?_))))
    rintro v125 h125 ⟨se, e125, BE, t125, fe⟩
    dsimp only at e125 BE t125
    subst e125
    replace c900 := c900.ext t125
    replace c110 := c110.ext t125
    replace c112 := c112.ext t125
    have T125 := Tz.ext t125
    have N125 := T125.nx
    have U125 : Sm (fun q => q = ba) hz9 h125 := Uz.ext t125
    have NU125 := U125.nx
    refine L_g 5 kr (q5 ?_)
    try refine Q4 ?_
    refine z1 1 kr (z9 _ rfl rfl kr (c110.ld (o := 0) kr rfl) (L_c rfl rfl kr (qg5 BE.rb (H.ext T125) (by rw [qz4]; omega)) ?_))
    rintro v126 h126 ⟨e126, t126⟩
    try dsimp only at e126 t126
    subst e126
    replace c900 := c900.ext t126
    replace c112 := c112.ext t126
    have T126 := T125.ext t126
    have U126 : Sm (fun q => q = ba) hz9 h126 := U125.ext t126
    have N126 := T126.nx
    have NU126 := U126.nx
    have M126 := t126.nx
    refine L_g 1 kr (q5 ?_)
    try refine Q4 ?_
    refine Q2 kr (z6 ?_)
    try refine Q4 ?_
    refine q7 (q6 (z9 _ rfl rfl kr (c112.ld (o := 0) kr rfl) (L_g 2 kr (q5 ?_))))
    try refine Q4 ?_
    refine j7 ?_
    refine rr ?_
    have hdz := (U126.get h118.next (by omega) (show ¬ _ = _ by omega)).trans hdd
    refine qg8 (v := .tuple ⟨[ptr ba, nv 0]⟩) (.inl rfl) (qv3 hdz) kr ?_
    have lz := T126.nx
    exact ⟨ba, rfl, hba0, c900.sm (Sm.drop1 _ _) (show ¬ _ = _ by omega), T126.trans (Sm.drop1 _ _) (fun q hq => .inr (by have hq : q = h118.next := hq; omega))⟩
  ·
    subst hz
    refine u4 kr (D_l (l := [0,1,2,3,4,5,6,7,8,9,10,11,12,13,14,15,16,17,18,19,20,21,22,23,24,25,26]) kr kr z4 (q9 _ rfl rfl kr kr kr (c112.ld (o := 0) kr rfl) (z2 3 kr (q9 _ rfl rfl kr kr kr (c900.ld (o := 40) kr J9) (J3 (1) (2) (.bool false) rfl rfl kr kr kr kr rfl (congrArg Value.bool (decide_eq_false (by decide))) (z2 1 kr (q9 _ rfl rfl kr kr kr (c112.ld (o := 0) kr rfl) (z2 3 kr (q9 _ rfl rfl kr kr kr (c900.ld (o := 40) kr J9) (J3 (1) (2) (.bool true) rfl rfl kr kr kr kr rfl (congrArg Value.bool (decide_eq_true (by decide))) (z2 1 kr ?_)))))))))))
    refine q9 _ rfl rfl kr kr kr (c112.ld (o := 0) kr rfl) (z2 2 kr (q9 _ rfl rfl kr kr kr ((Cl.ldS (o := 1) (k := 40) c900 kr (by rw [Z1]; decide)).trans (by rw [xj3])) (q9 _ rfl rfl kr kr kr (c112.ld (o := 0) kr rfl) (z2 3 kr (q9 _ rfl rfl kr kr kr (c900.ld (o := 40) kr J9) (U8 (.agg ⟨(Sa.cells ⟨0, false, false, false, 1⟩)⟩) rfl kr rfl kr kr (U8 (.bool false) rfl kr rfl kr (ev_bin (o := _) rfl kr kr neq_z) (z2 2 kr (z5 ?_)))))))))
    try refine Q4 ?_
    refine Q2 kr (z6 ?_)
    try refine Q4 ?_
    refine q7 (q7 (q6 (z9 _ rfl rfl kr (c112.ld (o := 0) kr rfl) (L_c rfl rfl kr (qy4 c900 hs hz2 hl9) ?_))))
    rintro v127 h127 ⟨se, e127, BE, t127, fe⟩
    dsimp only at e127 BE t127
    subst e127
    replace c900 := c900.ext t127
    replace c110 := c110.ext t127
    replace c112 := c112.ext t127
    have T127 := Tz.ext t127
    have N127 := T127.nx
    have U127 : Sm (fun q => q = ba) hz9 h127 := Uz.ext t127
    have NU127 := U127.nx
    refine L_g 5 kr (q5 ?_)
    try refine Q4 ?_
    refine z1 1 kr (z9 _ rfl rfl kr (c110.ld (o := 0) kr rfl) (L_c rfl rfl kr (qg5 BE.rb (H.ext T127) (by rw [qz4]; omega)) ?_))
    rintro v128 h128 ⟨e128, t128⟩
    try dsimp only at e128 t128
    subst e128
    replace c900 := c900.ext t128
    replace c112 := c112.ext t128
    have T128 := T127.ext t128
    have U128 : Sm (fun q => q = ba) hz9 h128 := U127.ext t128
    have N128 := T128.nx
    have NU128 := U128.nx
    have M128 := t128.nx
    refine L_g 1 kr (q5 ?_)
    try refine Q4 ?_
    refine Q2 kr (z6 ?_)
    try refine Q4 ?_
    refine q7 (q6 (z9 _ rfl rfl kr (c112.ld (o := 0) kr rfl) (L_g 2 kr (q5 ?_))))
    try refine Q4 ?_
    refine j7 ?_
    refine rr ?_
    have hdz := (U128.get h118.next (by omega) (show ¬ _ = _ by omega)).trans hdd
    refine qg8 (v := .tuple ⟨[ptr ba, nv 0]⟩) (.inl rfl) (qv3 hdz) kr ?_
    have lz := T128.nx
    exact ⟨ba, rfl, hba0, c900.sm (Sm.drop1 _ _) (show ¬ _ = _ by omega), T128.trans (Sm.drop1 _ _) (fun q hq => .inr (by have hq : q = h118.next := hq; omega))⟩
end
end Go.Proofs.YtjealfplbigphaaGreat
namespace Go.Nu
def HH : Nat := 2 ^ 2303
theorem uz3 : MM = HH + HH := by
 have h := pwdbl 2303 2304 rfl
 unfold MM HH
 exact h
theorem hhp : 0 < HH := by unfold HH; exact p0 2303
def zval (x : Nat) : Int := if HH ≤ x then (x : Int) - (MM : Nat) else x
theorem neg_hh (x : Nat) : neg? x = decide (HH ≤ x) := by unfold neg? HH; rfl
theorem ju9 {x y : Nat} (hx : x < MM) (hy : y < MM) (h : (zval x).natAbs + (zval y).natAbs < HH) : zval ((x + y) % MM) = zval x + zval y := by
 have e := uz3
 have h0 : 0 < HH := hhp
 unfold zval at *
 generalize MM = M at *
 generalize HH = H at *
 subst e
 by_cases h3 : x + y < H + H
 . rw [Nat.mod_eq_of_lt h3]
   split at h <;> split at h <;> split <;> (first | omega | (split <;> omega))
 . have e2 : (x + y) % (H + H) = x + y - (H + H) := by rw [Nat.mod_eq_sub_mod (by omega), Nat.mod_eq_of_lt (by omega)]
   rw [e2]
   split at h <;> split at h <;> split <;> (first | omega | (split <;> omega))
theorem absN_z {x : Nat} (hx : x < MM) : absN x = (zval x).natAbs := by
 have e := uz3
 have h0 : 0 < HH := hhp
 unfold absN zval negN
 rw [neg_hh]
 generalize MM = M at *
 generalize HH = H at *
 subst e
 by_cases h : H ≤ x
 . rw [decide_eq_true h, if_pos h]
   dsimp only
   rw [Nat.mod_eq_of_lt (by omega)]
   omega
 . rw [decide_eq_false h, if_neg h]
   show x = _
   omega
def UU : Nat := 2 ^ 2100
theorem uup : 0 < UU := by unfold UU; exact p0 2100
def Bd (a : Sa) (j : Nat) : Prop := a.s < MM /\ (zval a.s).natAbs ≤ j * UU
theorem uu_24 : 24 * UU < 2 ^ 2240 := by
 unfold UU
 have h1 := Nat.mul_lt_mul_of_pos_right (show 24 < 2 ^ 5 by decide) (p0 2100)
 rw [<- pwadd 5 2100 2105 rfl] at h1
 have h9 := pwle 2105 2240 (by decide); exact Nat.lt_of_lt_of_le h1 h9
theorem p_hh : 2 ^ 2240 ≤ HH := by have h9 := pwle 2240 2303 (by decide); unfold HH; exact h9
theorem xx2 {x : Nat} (h : x < 2 ^ 2240) : lenN x ≤ 2240 := by
 have h1 : word x 35 = 0 := qu9 (i := 35) (by rw [<- pweq 2240 (64 * 35) rfl]; exact h)
 have h2 : lenW (word x) 36 = lenW (word x) 35 := by rw [lenW, if_neg (fun c => c h1)]
 unfold lenN
 rw [h2]
 exact Go.Arm.lenW_le (qz1 x) 35
theorem Bd.len {a : Sa} {j : Nat} (h : Bd a j) (hj : j ≤ 24) : lenN (absN a.s) ≤ 2240 := by
 refine xx2 ?_
 rw [absN_z h.1]
 exact Nat.lt_of_le_of_lt (Nat.le_trans h.2 (Nat.mul_le_mul_right _ hj)) uu_24
theorem Bd.add {a q : Sa} {j k : Nat} (h1 : Bd a j) (h2 : Bd q k) (hjk : j + k ≤ 24) : Bd (a.add q) (j + k) := by
 have h3 : (zval a.s).natAbs + (zval q.s).natAbs ≤ (j + k) * UU := by rw [Nat.add_mul]; exact Nat.add_le_add h1.2 h2.2
 have h4 : (j + k) * UU ≤ 24 * UU := Nat.mul_le_mul_right _ hjk
 have h5 := uu_24
 have h6 := p_hh
 refine ⟨Nat.mod_lt _ zu8, ?_⟩
 show (zval ((a.s + q.s) % MM)).natAbs ≤ _
 rw [ju9 h1.1 h2.1 (by omega)]
 exact Nat.le_trans (Int.natAbs_add_le _ _) h3
theorem hh_uu : UU < HH := by have h9 := pwlt 2100 2303 (by decide); unfold HH UU; exact h9
theorem Bd.one (b : Nat) : Bd (oneB b) 1 := by
 have e := uz3
 have h0 : 0 < HH := hhp
 have hu : 0 < UU := uup
 have h1 := hh_uu
 have hz : Bd ⟨0, false, false, false, 0⟩ 1 := ⟨zu8, by show (zval 0).natAbs ≤ _; unfold zval; rw [if_neg (by omega)]; exact Nat.zero_le _⟩
 have hx : oneX b < UU := by unfold UU; exact Go.Arm.oneX_lt
 unfold oneB
 split
 . exact hz
 . split
   . exact hz
   . split
     . exact hz
     . unfold Bd zval negN
       dsimp only
       generalize oneX b = x at *
       generalize UU = u at *
       generalize HH = H at *
       rw [e]
       split
       . by_cases hx0 : x = 0
         . subst hx0
           rw [Nat.sub_zero, Nat.mod_self, if_neg (by omega)]
           exact ⟨by omega, by omega⟩
         . rw [Nat.mod_eq_of_lt (by omega), if_pos (by omega)]
           exact ⟨by omega, by omega⟩
       . rw [if_neg (by omega)]
         exact ⟨by omega, by omega⟩
theorem Sa.add_comm (a b : Sa) : a.add b = b.add a := by
 unfold Sa.add
 rw [Nat.add_comm, Bool.or_comm, Bool.or_comm a.pl, Bool.or_comm a.mi, Nat.max_comm]
theorem Sa.add_assoc (a b c : Sa) : (a.add b).add c = a.add (b.add c) := by
 unfold Sa.add
 dsimp only
 rw [Nat.mod_add_mod, Nat.add_mod_mod, Nat.add_assoc, Bool.or_assoc, Bool.or_assoc, Bool.or_assoc, Nat.max_assoc]
theorem Sa.z_add {a : Sa} (h : a.s < MM) : Sa.z.add a = a := by
 obtain ⟨s, na, pl, mi, ze⟩ := a
 unfold Sa.add Sa.z
 dsimp only
 rw [Nat.zero_add, Nat.mod_eq_of_lt h, Bool.false_or, Bool.false_or, Bool.false_or, Nat.zero_max]
def Sa.ok (a : Sa) : Prop := a.ze = 2 ∨ a = ⟨0, false, false, false, 1⟩
theorem Sa.ok_one (b : Nat) : (oneB b).ok := by
 unfold oneB
 split
 . exact .inl rfl
 . split
   . exact .inl rfl
   . split
     . exact .inr rfl
     . exact .inl rfl
theorem Sa.ok_add {a b : Sa} (h1 : a.ok) (h2 : b.ok) : (a.add b).ok := by
 have f : ∀ {x : Sa}, x.ok -> x.ze ≤ 2 := fun h => by
   rcases h with e | e
   . omega
   . rw [e]; decide
 rcases h1 with e | e
 . exact .inl (by show max a.ze b.ze = 2; have := f h2; omega)
 . rcases h2 with e2 | e2
   . exact .inl (by show max a.ze b.ze = 2; have := f (.inr e : a.ok); omega)
   . subst e e2
     refine .inr ?_
     unfold Sa.add
     dsimp only
     rw [Nat.add_zero, Nat.zero_mod]
     rfl
def tot (f : Nat -> Sa) : Nat -> Sa
 | 0 => Sa.z
 | k + 1 => (tot f k).add (f k)
def put (f : Nat -> Sa) (k : Nat) (x : Sa) : Nat -> Sa := fun q => if q = k then x else f q
theorem zk8 {f g : Nat -> Sa} : ∀ {k : Nat}, (∀ q, q < k -> f q = g q) -> tot f k = tot g k
 | 0, _ => rfl
 | k + 1, h => by
  unfold tot
  rw [zk8 fun q hq => h q (by omega), h k (Nat.lt_succ_self _)]
theorem xu5 {f : Nat -> Sa} {k : Nat} {x : Sa} : ∀ {p : Nat}, k < p -> tot (put f k ((f k).add x)) p = (tot f p).add x
 | 0, h => by omega
 | p + 1, h => by
  unfold tot
  by_cases e : k = p
  . subst e
    rw [zk8 (f := put f k ((f k).add x)) (g := f) (k := k) (fun q hq => if_neg (show ¬ q = k by omega)), show put f k ((f k).add x) k = (f k).add x from if_pos rfl, Sa.add_assoc]
  . rw [xu5 (by omega : k < p), show put f k ((f k).add x) p = f p from if_neg (by omega), Sa.add_assoc, Sa.add_comm x, <- Sa.add_assoc]
def sumW (w : Nat -> Nat) : Nat -> Nat
 | 0 => 0
 | k + 1 => sumW w k + w k
def putW (w : Nat -> Nat) (k x : Nat) : Nat -> Nat := fun q => if q = k then x else w q
theorem zj8 {f g : Nat -> Nat} : ∀ {k : Nat}, (∀ q, q < k -> f q = g q) -> sumW f k = sumW g k
 | 0, _ => rfl
 | k + 1, h => by
  unfold sumW
  rw [zj8 fun q hq => h q (by omega), h k (Nat.lt_succ_self _)]
theorem yj3 {w : Nat -> Nat} {k x : Nat} : ∀ {p : Nat}, k < p -> sumW (putW w k (w k + x)) p = sumW w p + x
 | 0, h => by omega
 | p + 1, h => by
  unfold sumW
  by_cases e : k = p
  . subst e
    rw [zj8 (f := putW w k (w k + x)) (g := w) (k := k) (fun q hq => if_neg (show ¬ q = k by omega)), show putW w k (w k + x) k = w k + x from if_pos rfl]; omega
  . rw [yj3 (by omega : k < p), show putW w k (w k + x) p = w p from if_neg (by omega)]; omega
theorem yz5 {w : Nat -> Nat} {k : Nat} : ∀ {p : Nat}, k < p -> w k ≤ sumW w p
 | 0, h => by omega
 | p + 1, h => by
  unfold sumW
  by_cases e : k = p
  . subst e; omega
  . have := yz5 (w := w) (k := k) (p := p) (by omega); omega
structure Fi (f : Nat -> Sa) (k n : Nat) (T : Sa) : Prop where
 ex : ∃ w : Nat -> Nat, (∀ q, q < k -> Bd (f q) (w q)) /\ sumW w k = n
 ok : ∀ q, q < k -> (f q).ok
 tot : tot f k = T
theorem Fi.bd {f : Nat -> Sa} {k n : Nat} {T : Sa} (h : Fi f k n T) (hn : n ≤ 12) {q : Nat} (hq : q < k) : (f q).s < MM /\ lenN (absN (f q).s) ≤ 2240 := by
 obtain ⟨w, h1, h2⟩ := h.ex
 have h3 := yz5 (w := w) hq
 exact ⟨(h1 q hq).1, (h1 q hq).len (by omega)⟩
theorem Fi.step {f : Nat -> Sa} {p n t : Nat} {T : Sa} (h : Fi f (p + 1) n T) (hn : n ≤ 12) (ht : t < p) : lenN (absN (((f t).s + (f p).s) % MM)) ≤ 2240 /\ Fi (put f t ((f t).add (f p))) p n T := by
 obtain ⟨w, h1, h2⟩ := h.ex
 have h3 : w t ≤ sumW w p := yz5 ht
 have h4 : sumW w p + w p = n := h2
 have hb := (h1 t (by omega)).add (h1 p (by omega)) (by omega)
 refine ⟨hb.len (by omega), ⟨putW w t (w t + w p), fun q hq => ?_, ?_⟩, fun q hq => ?_, ?_⟩
 . unfold put putW
   by_cases e : q = t
   . rw [if_pos e, if_pos e]; exact hb
   . rw [if_neg e, if_neg e]; exact h1 q (by omega)
 . rw [yj3 ht]; exact h4
 . unfold put
   split
   . exact Sa.ok_add (h.ok t (by omega)) (h.ok p (by omega))
   . exact h.ok q (by omega)
 . rw [xu5 ht]; exact h.tot
theorem Fi.last {f : Nat -> Sa} {n : Nat} {T : Sa} (h : Fi f 1 n T) : f 0 = T := by
 obtain ⟨w, h1, _⟩ := h.ex
 rw [<- h.tot]
 exact (Sa.z_add (h1 0 (by omega)).1).symm
def sumL (l : List Nat) : Sa := tot (fun q => oneB (l.getD q 0)) l.length
theorem Fi.start (l : List Nat) : Fi (fun q => oneB (l.getD q 0)) l.length l.length (sumL l) :=
 ⟨⟨fun _ => 1, fun q _ => Bd.one _, by
  have : ∀ k, sumW (fun _ => 1) k = k := fun k => by
   induction k with
   | zero => rfl
   | succ k ih => unfold sumW; rw [ih]
  exact this _⟩, fun q _ => Sa.ok_one _, rfl⟩
theorem yq2 (l : List Nat) : ∀ k, k ≤ 12 -> Bd (tot (fun q => oneB (l.getD q 0)) k) k
 | 0, _ => ⟨zu8, by show (zval 0).natAbs ≤ _; unfold zval; rw [if_neg (by have : 0 < HH := hhp; omega)]; exact Nat.zero_le _⟩
 | k + 1, h => (yq2 l k (by omega)).add (Bd.one _) (by omega)
theorem jj4 : (sumL [4877398396442247168, 4607182418800017408, 14100770433297022976]).val = 4607182418800017408 := by decide +kernel
end Go.Nu
namespace Go.Proofs.YtjealfplbigphaaGreat
noncomputable section
open Go Go.X Go.Arm Go.Mt Go.Nu
set_option maxHeartbeats 2000000 in
theorem xz8 {W : Wd} {G : Gh} {h : AH} {k : Nat} {W' : Wd} (R : Rep W G h) (hbig : W.n < 1000) (hk : k < 500) (hs : Wd.SettS k W W') :
  Arm.Calls Tryz.prog 13 [ptr (G.B .wd), nv (W.n : Int)] h (fun r => r.1 = .bool true /\ Nxt W' G h r.2) := by
 have hbg : W.n < big := Nat.lt_trans hbig (by decide)
 refine j9 29 Tryz.f13 ?_
 have T0 : Sm Nix h h := .refl
 refine z1 1 kr (q5 (q7 (z1 1 kr (q5 (u3 ?_)))))
 refine J5 (fun mm fr hh => ∃ (k : Nat) (i : Nat) (Wa : Wd) (Sa : Ro -> Value) (Ca : Ro -> Th) (ra : Nat -> Prop), mm = k /\ (i + k < 500) /\ (Wd.SettS k Wa W') /\ Wa.n = W.n /\ Rep Wa (⟨G.B, Sa, Ca, ra⟩ : Gh) hh /\ Gx G h (⟨G.B, Sa, Ca, ra⟩ : Gh) hh /\ fr 0 = ptr (G.B .wd) /\ fr 1 = nv (W.n : Int) /\ fr 7 = nv (i : Int)) (k) ?_ ?_
 ·
  have T0x := T0
  exact ⟨k, 0, W, _, _, _, rfl, by omega, hs, rfl, (R.ext T0), ((Gx.refl).trans (Gx.of T0)), kr, kr, kr⟩
 rintro mm fr hha ⟨k, i, Wa, Sa, Ca, ra, hma, ha1, ha2, hna, Ra, Xa, y0, y1, y7⟩
 refine j8 (k := 0) y0 (j8 (k := 1) y1 (j8 (k := 7) y7 ?_))
 have Ta : Sm Nix hha hha := .refl
 obtain ⟨W1, hr1, hq1⟩ := ha2.step
 have hal : Wd.allS Wa.n 0 Wa.n Wa = some W1 := hr1
 rw [hna] at hal
 refine q7 (q6 (L_i ((i : Int)) (500) (.bool true) rfl rfl kr kr rfl (congrArg Value.bool (decide_eq_true (by omega))) (q5 (q7 (U7 kr (z6 (q7 (u3 (q7 (q7 (q6 ?_)))))))))))
 refine L_g 2 kr (q5 (u3 ?_))
 refine J5 (fun mm fr hh => ∃ (p : Nat) (Wb : Wd) (Sb : Ro -> Value) (Cb : Ro -> Th) (rb : Nat -> Prop), mm = W.n - p /\ (p ≤ W.n) /\ (Wd.allS W.n p (W.n - p) Wb = some W1) /\ Wb.n = W.n /\ Rep Wb (⟨G.B, Sb, Cb, rb⟩ : Gh) hh /\ Gx G h (⟨G.B, Sb, Cb, rb⟩ : Gh) hh /\ fr 0 = ptr (G.B .wd) /\ fr 1 = nv (W.n : Int) /\ fr 7 = nv (i : Int) /\ fr 9 = nv (W.n : Int) /\ fr 10 = nv (p : Int)) (W.n) ?_ ?_
 ·
  exact ⟨0, Wa, _, _, _, rfl, Nat.zero_le _, hal, hna, (Ra.ext Ta), ((Xa).trans (Gx.of Ta)), kr, kr, kr, kr, kr⟩
 rintro mm fr hhb ⟨p, Wb, Sb, Cb, rb, hmb, hb1, hb2, hnb, Rb, Xb, y0, y1, y7, y9, y10⟩
 refine j8 (k := 0) y0 (j8 (k := 1) y1 (j8 (k := 7) y7 (j8 (k := 9) y9 (j8 (k := 10) y10 ?_))))
 have Tb : Sm Nix hhb hhb := .refl
 refine q7 (q6 (L_i ((p : Int)) ((W.n : Int)) (.bool (decide ((p : Int) < (W.n : Int)))) rfl rfl kr kr rfl (rfl) (q5 (q7 ?_))))
 refine Q0 (decide ((p : Int) < (W.n : Int))) kr (fun hb => ?_) (fun hb => ?_)
 ·
  have hpl : p < W.n := by simp at hb; omega
  rw [show W.n - p = (W.n - (p + 1)) + 1 by omega] at hb2
  obtain ⟨Wx, hx1, hb3⟩ := Option.bind_eq_some_iff.1 hb2
  obtain ⟨Wy, hy1, hy2⟩ := Option.bind_eq_some_iff.1 hx1
  have hny : Wy.n = W.n := (Wd.rowS_n hy1).trans hnb
  have hnx : Wx.n = W.n := (Wd.call_n hy2).trans hny
  refine z6 (q7 (u3 (z1 2 kr (q5 (q7 (z1 2 kr (q5 ?_)))))))
  refine u3 ?_
  refine J5 (fun mm fr hh => ∃ (q : Nat) (Wc : Wd) (Sc : Ro -> Value) (Cc : Ro -> Th) (rc : Nat -> Prop), mm = W.n - q /\ (q ≤ W.n) /\ (Wd.rowS p q (W.n - q) Wc = some Wy) /\ Wc.n = W.n /\ Rep Wc (⟨G.B, Sc, Cc, rc⟩ : Gh) hh /\ Gx G h (⟨G.B, Sc, Cc, rc⟩ : Gh) hh /\ fr 0 = ptr (G.B .wd) /\ fr 1 = nv (W.n : Int) /\ fr 7 = nv (i : Int) /\ fr 9 = nv (W.n : Int) /\ fr 10 = nv (p : Int) /\ fr 5 = nv (p : Int) /\ fr 13 = nv (W.n : Int) /\ fr 14 = nv (q : Int)) (W.n) ?_ ?_
  ·
   exact ⟨0, Wb, _, _, _, rfl, Nat.zero_le _, hy1, hnb, (Rb.ext Tb), ((Xb).trans (Gx.of Tb)), kr, kr, kr, kr, kr, kr, kr, kr⟩
  rintro mm fr hhc ⟨q, Wc, Sc, Cc, rc, hmc, hc1, hc2, hnc, Rc, Xc, y0, y1, y7, y9, y10, y5, y13, y14⟩
  refine j8 (k := 0) y0 (j8 (k := 1) y1 (j8 (k := 7) y7 (j8 (k := 9) y9 (j8 (k := 10) y10 (j8 (k := 5) y5 (j8 (k := 13) y13 (j8 (k := 14) y14 ?_)))))))
  have Tc : Sm Nix hhc hhc := .refl
  refine q7 (q6 (L_i ((q : Int)) ((W.n : Int)) (.bool (decide ((q : Int) < (W.n : Int)))) rfl rfl kr kr rfl (rfl) (q5 (q7 ?_))))
  refine Q0 (decide ((q : Int) < (W.n : Int))) kr (fun hb => ?_) (fun hb => ?_)
  ·
   have hql : q < W.n := by simp at hb; omega
   rw [show W.n - q = (W.n - (q + 1)) + 1 by omega] at hc2
   obtain ⟨Wu, hu1, hc3⟩ := Option.bind_eq_some_iff.1 hc2
   have hnu : Wu.n = W.n := (Wd.dl1_n hu1).trans hnc
   have hp9 : p < Wc.n := by rw [hnc]; exact hpl
   have hq9 : q < Wc.n := by rw [hnc]; exact hql
   refine z6 (q7 (u3 (z1 2 kr (q5 ?_))))
   unfold Wd.dl1 at hu1
   split at hu1
   ·
    rename_i hem
    obtain rfl := Option.some.inj hu1
    refine Z3 3 kr (L_c rfl rfl kr (xj0 (a := p) (b := q) (Rc.ext Tc) hp9 hq9 hem) ?_)
    rintro v280 h280 ⟨e280, t280⟩
    try dsimp only at e280 t280
    subst e280
    have T280 := Tc.ext t280
    have N280 := T280.nx
    have M280 := t280.nx
    refine q5 (q6 (L_i ((q : Int)) (1) (nv ((q + 1 : Nat) : Int)) rfl rfl kr kr rfl (Z4 (by omega)) (L_g 1 kr (q5 ?_))))
    exact ⟨W.n - (q + 1), by omega, (q + 1), _, _, _, _, rfl, by omega, hc3, hnu, (Rc.ext T280), ((Xc).trans (Gx.of T280)), kr, kr, kr, kr, kr, kr, kr, kr⟩
   ·
    rename_i x l hwy
    split at hu1
    rotate_right
    . cases hu1
    rename_i hbg
    obtain rfl := Option.some.inj hu1
    refine Z3 3 kr (L_c rfl rfl kr (xx9 (a := p) (b := q) (Rc.ext Tc) hp9 hq9 hwy hbg) ?_)
    rintro v281 h281 ⟨e281, N281⟩
    dsimp only at e281 N281
    subst e281
    obtain ⟨S281, C281, ro281, R281, Y281⟩ := N281
    have X281 := ((Xc).trans (Gx.of Tc)).trans Y281
    have T281 : Sm (Ow h (⟨Gh.B (⟨G.B, Sc, Cc, rc⟩ : Gh), S281, C281, ro281⟩ : Gh)) h281 h281 := .refl
    refine q5 (q6 (L_i ((q : Int)) (1) (nv ((q + 1 : Nat) : Int)) rfl rfl kr kr rfl (Z4 (by omega)) (L_g 1 kr (q5 ?_))))
    exact ⟨W.n - (q + 1), by omega, (q + 1), _, _, _, _, rfl, by omega, hc3, hnu, (R281.ow T281), ((X281).ow T281), kr, kr, kr, kr, kr, kr, kr, kr⟩
  ·
   have hge : q = W.n := by simp at hb; omega
   rw [hge, Nat.sub_self] at hc2
   obtain rfl := Option.some.inj hc2
   have hp9 : p < Wc.n := by rw [hnc]; exact hpl
   refine J8 ?_
   refine rx ?_
   refine Q7 (Z3 2 kr (L_c rfl rfl kr (Qz2 (Rc.ext Tc) hp9 hy2) ?_))
   rintro v282 h282 ⟨e282, N282⟩
   dsimp only at e282 N282
   subst e282
   obtain ⟨S282, C282, ro282, R282, Y282⟩ := N282
   have X282 := ((Xc).trans (Gx.of Tc)).trans Y282
   have T282 : Sm (Ow h (⟨Gh.B (⟨G.B, Sc, Cc, rc⟩ : Gh), S282, C282, ro282⟩ : Gh)) h282 h282 := .refl
   refine q5 (q6 (L_i ((p : Int)) (1) (nv ((p + 1 : Nat) : Int)) rfl rfl kr kr rfl (Z4 (by omega)) (L_g 1 kr (q5 ?_))))
   exact ⟨W.n - (p + 1), by omega, (p + 1), _, _, _, _, rfl, by omega, hb3, hnx, (R282.ow T282), ((X282).ow T282), kr, kr, kr, kr, kr⟩
 ·
  have hge : p = W.n := by simp at hb; omega
  rw [hge, Nat.sub_self] at hb2
  obtain rfl := Option.some.inj hb2
  refine J8 ?_
  refine rx ?_
  refine Q7 (q7 ?_)
  rcases hq1 with ⟨hqt, hw9⟩ | ⟨hqf, k', hk', hst⟩
  ·
   subst hw9
   refine Z3 1 kr (L_c rfl rfl kr (yu9 (Rb.ext Tb) (by rw [hnb]; exact hbg)) ?_)
   rintro v283 h283 ⟨b283, e283, q283, t283⟩
   try dsimp only at t283
   dsimp only at e283 t283
   obtain rfl : b283 = true := q283.2 hqt
   subst e283
   have T283 := Tb.ext t283
   have N283 := T283.nx
   have M283 := t283.nx
   refine q5 (U7 kr (z1 1 kr (q5 (j7 ?_))))
   refine rr ?_
   refine z0 (v := .bool true) (.inl rfl) kr ?_
   exact ⟨rfl, _, _, _, (Rb.ext T283), ((Xb).trans (Gx.of T283))⟩
  ·
   refine Z3 1 kr (L_c rfl rfl kr (yu9 (Rb.ext Tb) (by rw [hnb]; exact hbg)) ?_)
   rintro v284 h284 ⟨b284, e284, q284, t284⟩
   try dsimp only at t284
   dsimp only at e284 t284
   obtain rfl : b284 = false := by
    cases b284 with
    | false => rfl
    | true => exact (hqf (q284.1 rfl)).elim
   subst e284
   have T284 := Tb.ext t284
   have N284 := T284.nx
   have M284 := t284.nx
   refine q5 (Q2 kr (z6 (q6 (L_i ((i : Int)) (1) (nv ((i + 1 : Nat) : Int)) rfl rfl kr kr rfl (Z4 (by omega)) (L_g 1 kr (q5 ?_))))))
   exact ⟨k', by omega, k', (i + 1), _, _, _, _, rfl, by omega, hst, (Wd.rndS_n hr1).trans hna, (Rb.ext T284), ((Xb).trans (Gx.of T284)), kr, kr, kr⟩
end
end Go.Proofs.YtjealfplbigphaaGreat
namespace Go.Arm
noncomputable section
open Go Go.X Go.Nu
def vcs (l : List Nat) : List Value := l.flatMap fun b => [uv b, nv 0]
theorem xq4 : ∀ {l : List Nat} {i : Nat} (_ : i < l.length) (j : Nat) (_ : j < 2), (vcs l)[i * 2 + j]? = [uv (l.getD i 0), nv 0][j]?
 | [], i, h, _, _ => by cases h
 | b :: l, 0, h, j, hj => by
  show ([uv b, nv 0] ++ vcs l)[0 * 2 + j]? = _
  rw [Nat.zero_mul, Nat.zero_add, List.getElem?_append_left (by exact hj)]
  rfl
 | b :: l, i + 1, h, j, hj => by
  show ([uv b, nv 0] ++ vcs l)[(i + 1) * 2 + j]? = _
  rw [List.getElem?_append_right (by show 2 ≤ _; omega), show (i + 1) * 2 + j - [uv b, nv 0].length = i * 2 + j by show (i + 1) * 2 + j - 2 = _; omega, xq4 (by simpa using h) j hj]
  rfl
theorem jv6 (l : List Nat) (b : Nat) : vcs l ++ [uv b, nv 0] = vcs (l ++ [b]) := by
 unfold vcs
 rw [List.flatMap_append]
 rfl
theorem take_s {l : List Nat} {i : Nat} (h : i < l.length) : l.take i ++ [l.getD i 0] = l.take (i + 1) := by
 rw [List.take_add_one, List.getD_eq_getElem?_getD, List.getElem?_eq_getElem h]; rfl
theorem jv5 {l : List Nat} {i : Nat} (h : i < l.length) : vcs (l.take i) ++ [uv (l.getD i 0), nv 0] = vcs (l.take (i + 1)) := by
 rw [jv6, take_s h]
section
variable {P : Program} [Kn P] {n : Nat} {h : AH} {Q : Post} {f : Fr} {ops : Array Oper} {rest : List Oper} {o : Oper}
theorem L_cy {g : FuncId} {xs : List Operand} {Ts : Array TypeId} {args : List Value} (v : Value) (ho : o.op = .call ⟨.value (.func g), ⟨xs⟩, Ts⟩) (hs : okO n o = true) (ha : evs n f xs = some args) (hv : aCallX P g args h = some [(.val v, h)])
  (k : L P n ops Q rest (updO f o.dst v) h) : L P n ops Q (o :: rest) f h := by
 refine yq1 (Z6 hs).1 (Z6 hs).2 (fun t ht => ?_) k
 unfold aOp
 rw [ho]
 show aCallO P n t h _ = _
 rw [qv9, ht]
 show (match some (Value.func (.func g) #[] #[]), evs n f xs with
  | some (.func fn ⟨first⟩ ⟨cap⟩), some vs => aInvoke P fn cap (first ++ vs) h
  | _, _ => none) = _
 rw [ha]
 show aCallX P g (([] ++ args) ++ []) h = _
 rw [List.append_nil, List.nil_append]
 exact hv
end
theorem ex_lt : ∀ i, ([4877398396442247168, 4607182418800017408, 14100770433297022976] : List Nat).getD i 0 < BB
 | 0 => by decide
 | 1 => by decide
 | 2 => by decide
 | i + 3 => by show 0 < BB; decide
end
end Go.Arm
namespace Go.Proofs.YtjealfplbigphaaGreat
noncomputable section
open Go Go.X Go.Arm Go.Mt Go.Nu
theorem jy9 {h : AH} : Arm.Calls Tryz.prog 43 [.int .i64 1, .int .i64 2] h (fun r => r.1 = fT h.next /\ Sm Nix h r.2) :=
 ⟨[(fT h.next, ⟨h.m.set h.next (some (bx fnA)), h.next + 1⟩)], eRun_g (P := Tryz.prog) kr, fun p hp => by rw [List.mem_singleton.1 hp]; exact ⟨rfl, .push h (bx fnA)⟩⟩
theorem jz8 {h : AH} : Arm.Calls Tryz.prog 18 [nv 1, nv 2] h (fun r => r.1 = nv 0 /\ Sm Nix h r.2) := by
 refine Q5 (n := 25) (fn := Tryz.f18) kr rfl rfl (Nat.le_of_ble_eq_true rfl) trivial ⟨.inl (fun e => by cases e), rfl⟩ ?_
 have T0 : Sm Nix h h := .refl
 refine z1 1 kr (q5 (q7 (u3 (z1 15 kr (q5 (Q2 kr (q7 ?_)))))))
 refine Z3 2 kr (L_c rfl rfl kr (jy9) ?_)
 rintro v129 h129 ⟨e129, t129⟩
 try dsimp only at e129 t129
 subst e129
 have T129 := T0.ext t129
 have N129 := T129.nx
 have M129 := t129.nx
 refine L_g 2 kr (q5 (Q2 kr (z6 (z1 1 kr (q5 (j7 ?_))))))
 refine rr ?_
 refine z0 (v := nv 0) (.inl rfl) kr ?_
 exact ⟨rfl, T129⟩
theorem jq2 {h : AH} {sv : Value} {l : List Nat} (H : Sd h 2 sv l.length (vcs l)) (hl : l.length < 4096) : Arm.Calls Tryz.prog 19 [nv 2, sv] h (fun r => r.1 = .bool true /\ Sm Nix h r.2) := by
 refine Q5 (n := 21) (fn := Tryz.f19) kr rfl rfl (Nat.le_of_ble_eq_true rfl) trivial ⟨.inl (fun e => by cases e), rfl⟩ ?_
 have T0 : Sm Nix h h := .refl
 refine z1 1 kr (q5 (q7 (z1 1 kr (V4 _ rfl rfl kr ((H.ext T0).len (T := 29) (el := 31) kr) (L_g 1 kr (q5 (u3 ?_)))))))
 refine J5 (fun mm fr hh => ∃ (i : Nat), (i ≤ l.length) /\ mm = l.length - i /\ fr 0 = nv 2 /\ fr 7 = sv /\ fr 8 = nv (l.length : Int) /\ fr 9 = nv (i : Int) /\ Sm Nix h hh) (l.length) ?_ ?_
 ·
  exact ⟨0, (Nat.zero_le _), rfl, kr, kr, kr, kr, T0⟩
 rintro mm130 fr130 h130 ⟨i, hi, hm130, y130_0, y130_7, y130_8, y130_9, T130⟩
 have N130 := T130.nx
 refine j8 (k := 0) y130_0 (j8 (k := 7) y130_7 (j8 (k := 8) y130_8 (j8 (k := 9) y130_9 (q7 (q6 (L_i ((i : Int)) ((l.length : Int)) (.bool (decide ((i : Int) < (l.length : Int)))) rfl rfl kr kr rfl (rfl) (q5 (q7 ?_))))))))
 refine Q0 (decide ((i : Int) < (l.length : Int))) kr (fun hb => ?_) (fun hb => ?_)
 ·
  have hlt : i < l.length := by simp at hb; omega
  have hsv : ∀ b, vb sv = some b -> ¬ Nix b := fun _ _ x => x
  refine z6 (q7 (u3 (q7 (q6 ?_))))
  obtain ⟨be, oe, ve, ie, le⟩ := (H.sm T130 (by exact hsv)).at (P := Tryz.prog) (T := 29) (el := 31) kr kr hlt .i64
  refine Z8 _ rfl rfl kr kr (ie) (z9 _ rfl rfl kr (zk6 (l := [uv (l.getD i 0), nv 0]) kr (fun j hj => (le j hj).trans (xq4 hlt j hj))) (Q1 [.int .u64 0, nv 0] .ptr rfl rfl kr fun h131 c131 t131 n131 => ?_))
  have T131 := T130.ext t131
  have N131 := T131.nx
  obtain ⟨h132, e132, d132, t132, n132⟩ := c131.sA 31 [uv (l.getD i 0), nv 0]
  replace c131 := d132
  have T132 := T131.tr t132
  have N132 := T132.nx
  refine Q3 _ rfl rfl rfl kr kr (e132) (q5 (z1 4 kr (u9 kr (z9 _ rfl rfl kr (c131.ld (o := 1) kr rfl) (L_g 2 kr (q5 (Q2 kr (z6 (q6 ?_)))))))))
  refine L_i ((i : Int)) (1) (nv ((i + 1 : Nat) : Int)) rfl rfl kr kr rfl (Z4 (by omega)) (L_g 1 kr (q5 ?_))
  exact ⟨l.length - (i + 1), by omega, i + 1, (by omega), rfl, kr, kr, kr, kr, T132⟩
 ·
  refine J8 ?_
  refine rx ?_
  refine Q7 (z1 1 kr (q5 (j7 ?_)))
  refine rr ?_
  refine z0 (v := .bool true) (.inl rfl) kr ?_
  exact ⟨rfl, T130⟩
theorem xq8 {h : AH} {sv : Value} {l : List Nat} (H : Sd h 2 sv l.length (vcs l)) (hl : l.length ≤ 12) (hx : ∀ i, l.getD i 0 < BB) : Arm.Calls Tryz.prog 20 [nv 1, nv 2, sv] h (fun r => r.1 = .agg ⟨[uv (sumL l).val, nv 0]⟩ /\ Sm Nix h r.2) := by
 refine Q5 (n := 60) (fn := Tryz.f20) kr rfl rfl (Nat.le_of_ble_eq_true rfl) trivial ⟨.inl (fun e => by cases e), rfl⟩ ?_
 have T0 : Sm Nix h h := .refl
 refine q7 (q6 (Q1 [.int .u64 0, nv 0] .ptr rfl rfl kr fun h133 c133 t133 n133 => ?_))
 have T133 := T0.ext t133
 have N133 := T133.nx
 refine q5 (q7 (z1 6 kr (q5 (U7 kr (q7 (q6 (L_c rfl rfl kr (yx1) ?_)))))))
 rintro v134 h134 ⟨ba, e134, hba, c900, t134⟩
 dsimp only at e134 hba c900 t134
 subst e134
 have hba0 : h.next ≤ ba := Nat.le_trans (T133).nx hba
 replace c133 := c133.ext t134
 have T134 := T133.ext t134
 have N134 := T134.nx
 have lba := c900.lt
 refine L_g 1 kr (q5 (q7 (z1 1 kr (V4 _ rfl rfl kr ((H.ext T134).len (T := 29) (el := 31) kr) (L_g 1 kr (q5 (u3 ?_)))))))
 refine J5 (fun mm fr hh => ∃ (i : Nat), (i ≤ l.length) /\ mm = l.length - i /\ fr 6 = ptr (h.next) /\ fr 7 = ptr ba /\ fr 21 = sv /\ fr 22 = nv (l.length : Int) /\ fr 23 = nv (i : Int) /\ Sm Nix h hh /\ Cl hh (ba) (accL (tot (fun q => oneB (l.getD q 0)) i)) /\ Cl hh (h.next) [.int .u64 0, nv 0]) (l.length) ?_ ?_
 ·
  exact ⟨0, (Nat.zero_le _), rfl, kr, kr, kr, kr, kr, T134, c900, c133⟩
 rintro mm135 fr135 h135 ⟨i, hi, hm135, y135_6, y135_7, y135_21, y135_22, y135_23, T135, c900, c133⟩
 have N135 := T135.nx
 have B135_acc := c900.lt
 have B135_t6 := c133.lt
 refine j8 (k := 6) y135_6 (j8 (k := 7) y135_7 (j8 (k := 21) y135_21 (j8 (k := 22) y135_22 (j8 (k := 23) y135_23 (q7 (q6 (L_i ((i : Int)) ((l.length : Int)) (.bool (decide ((i : Int) < (l.length : Int)))) rfl rfl kr kr rfl (rfl) (q5 (q7 ?_)))))))))
 refine Q0 (decide ((i : Int) < (l.length : Int))) kr (fun hb => ?_) (fun hb => ?_)
 ·
  have hlt : i < l.length := by simp at hb; omega
  have hsv : ∀ b, vb sv = some b -> ¬ Nix b := fun _ _ x => x
  refine z6 (q7 (u3 (q7 (q6 ?_))))
  obtain ⟨be, oe, ve, ie, le⟩ := (H.sm T135 (by exact hsv)).at (P := Tryz.prog) (T := 29) (el := 31) kr kr hlt .i64
  refine Z8 _ rfl rfl kr kr (ie) (z9 _ rfl rfl kr (zk6 (l := [uv (l.getD i 0), nv 0]) kr (fun j hj => (le j hj).trans (xq4 hlt j hj))) (Q1 [.int .u64 0, nv 0] .ptr rfl rfl kr fun h136 c136 t136 n136 => ?_))
  replace c900 := c900.ext t136
  replace c133 := c133.ext t136
  have T136 := T135.ext t136
  have N136 := T136.nx
  obtain ⟨h137, e137, d137, t137, n137⟩ := c136.sA 31 [uv (l.getD i 0), nv 0]
  replace c900 := c900.sn t137
  replace c133 := c133.sn t137
  replace c136 := d137
  have T137 := T136.tr t137
  have N137 := T137.nx
  refine Q3 _ rfl rfl rfl kr kr (e137) (q5 (Z3 2 kr (z9 _ rfl rfl kr (c136.ld (o := 0) kr rfl) (L_c rfl rfl kr (xg6 (x := l.getD i 0) c900 (hx _) ((yq2 l i (by omega)).add (Bd.one _) (by omega) |>.len (by omega))) ?_))))
  rintro v138 h138 ⟨e138, d138, t138⟩
  dsimp only at e138 d138 t138
  subst e138
  replace c900 := c900
  replace c133 := c133
  replace c136 := c136
  have T138 : Sm Nix h h138 := T137.trans t138 (fun x hx => .inr (by have hx : x = ba := hx; omega))
  have N138 := T138.nx
  replace c900 : Arm.Cl h138 ba (accL (tot (fun q => oneB (l.getD q 0)) (i + 1))) := d138
  replace c133 := c133.sn t138
  refine q5 (q6 (L_i ((i : Int)) (1) (nv ((i + 1 : Nat) : Int)) rfl rfl kr kr rfl (Z4 (by omega)) (L_g 1 kr (q5 ?_))))
  exact ⟨l.length - (i + 1), by omega, i + 1, (by omega), rfl, kr, kr, kr, kr, kr, T138, c900, c133⟩
 ·
  have hge : i = l.length := by simp at hb; omega
  subst hge
  refine J8 ?_
  refine rx ?_
  refine Q7 (z1 1 kr (L_c rfl rfl kr (yx8 c900 (yq2 l _ hl).1) ?_))
  rintro v139 h139 ⟨e139, t139⟩
  try dsimp only at e139 t139
  subst e139
  replace c133 := c133.ext t139
  have T139 := T135.ext t139
  have N139 := T139.nx
  have M139 := t139.nx
  refine L_p (.agg ⟨[uv (sumL l).val, nv 0]⟩) rfl kr ?_
  obtain ⟨h140, e140, d140, t140, n140⟩ := c133.sA 31 [uv (sumL l).val, nv 0]
  replace c133 := d140
  have T140 := T139.tr t140
  have N140 := T140.nx
  refine Q3 _ rfl rfl rfl kr kr (e140) (q5 (j7 ?_))
  refine rr ?_
  refine z0 (.inl rfl) (E4 kr kr (Cl.allN (n := 2) c133 rfl kr)) ?_
  exact ⟨rfl, T140⟩
theorem xy1 {h : AH} {sv : Value} {l : List Nat} (H : Sd h 2 sv l.length (vcs l)) (h0 : 0 < l.length) (hl : l.length ≤ 12) (hx : ∀ i, l.getD i 0 < BB) : Arm.Calls Tryz.prog 6 [nv 1, nv 2, sv] h (fun r => r.1 = .tuple ⟨[.agg ⟨[uv (sumL l).val, nv 0]⟩, nv 0]⟩ /\ Sm Nix h r.2) := by
 refine Q5 (n := 30) (fn := Tryz.f6) kr rfl rfl (Nat.le_of_ble_eq_true rfl) trivial ⟨.inl (fun e => by cases e), rfl⟩ ?_
 have T0 : Sm Nix h h := .refl
 refine q7 (q6 (Q1 [.int .u64 0, nv 0] .ptr rfl rfl kr fun h141 c141 t141 n141 => ?_))
 have T141 := T0.ext t141
 have N141 := T141.nx
 refine L_g 1 kr (q5 (q7 (z1 2 kr (L_c rfl rfl kr (jz8) ?_))))
 rintro v142 h142 ⟨e142, t142⟩
 try dsimp only at e142 t142
 subst e142
 replace c141 := c141.ext t142
 have T142 := T141.ext t142
 have N142 := T142.nx
 have M142 := t142.nx
 refine L_g 1 kr (q5 (z1 2 kr (q5 (Q2 kr (z6 (q7 (q7 (q6 (L_g 1 kr ?_)))))))))
 refine V4 _ rfl rfl kr ((H.ext T142).len (T := 29) (el := 31) kr) (L_i ((l.length : Int)) (0) (.bool false) rfl rfl kr kr rfl ((eqI0 _).trans (by rw [decide_eq_false (by omega)])) (L_g 3 kr (u9 kr (L_c rfl rfl kr (jq2 (H.ext T142) (by omega)) ?_))))
 rintro v143 h143 ⟨e143, t143⟩
 try dsimp only at e143 t143
 subst e143
 replace c141 := c141.ext t143
 have T143 := T142.ext t143
 have N143 := T143.nx
 have M143 := t143.nx
 refine L_g 2 kr (q5 (Q2 kr (z6 (z1 3 kr (L_c rfl rfl kr (xq8 (H.ext T143) hl hx) ?_)))))
 rintro v144 h144 ⟨e144, t144⟩
 try dsimp only at e144 t144
 subst e144
 replace c141 := c141.ext t144
 have T144 := T143.ext t144
 have N144 := T144.nx
 have M144 := t144.nx
 obtain ⟨h145, e145, d145, t145, n145⟩ := c141.sA 31 [uv (sumL l).val, nv 0]
 replace c141 := d145
 have T145 := T144.tr t145
 have N145 := T145.nx
 refine Q3 _ rfl rfl rfl kr kr (e145) (L_g 1 kr (q5 (j7 ?_)))
 refine rr ?_
 refine z0 (.inl rfl) (yy2 kr kr kr (Cl.allN (n := 2) c141 rfl kr) (w := nv 0) kr) ?_
 exact ⟨rfl, T145⟩
end
end Go.Proofs.YtjealfplbigphaaGreat
namespace Go.Arm
noncomputable section
open Go Go.X Go.Mt Go.Nu
theorem ixS {P : Program} {T el : TypeId} {b n i : Nat} (hT : P.underlying T = some (.slice el)) (hk : szOf P el = some 1) (hi : i < n) : aIndex P T (.slice (some ⟨b, 0, none⟩) n n) (nv (i : Int)) = some (.pointer (some ⟨b, i, none⟩)) := by
 unfold aIndex nv
 simp only [hT, hk]
 rw [if_pos ⟨by omega, by omega, by omega⟩]
 simp
theorem jg4 {P : Program} {h : AH} {T : TypeId} {xo yo : Operand} {a d : Nat} (hd : 0 < d) : aBin P .rem T xo yo (nv (a : Int)) (nv (d : Int)) h = some (nv ((a % d : Nat) : Int)) := by
 obtain ⟨k, rfl⟩ : ∃ k, d = k + 1 := ⟨d - 1, by omega⟩
 exact qj9
def rowA (A : Nat -> Nat) (i n : Nat) : List Value := (List.range n).map fun q => if q < i then ptr (A q) else .pointer none
theorem yu6 {A : Nat -> Nat} {i n : Nat} : (rowA A i n).length = n := by unfold rowA; rw [List.length_map, List.length_range]
theorem zx1 {A : Nat -> Nat} {i n q : Nat} (hq : q < n) (hi : q < i) : (rowA A i n)[q]? = some (ptr (A q)) := by
 unfold rowA
 rw [List.getElem?_map, List.getElem?_range hq]
 show some (if q < i then ptr (A q) else .pointer none) = _
 rw [if_pos hi]
def putA (A : Nat -> Nat) (i b : Nat) : Nat -> Nat := fun q => if q = i then b else A q
theorem jg1 {A : Nat -> Nat} {i n b : Nat} : (rowA A i n).set i (ptr b) = rowA (putA A i b) (i + 1) n := by
 apply List.ext_getElem?
 intro q
 rw [List.getElem?_set, yu6]
 unfold rowA putA
 rw [List.getElem?_map, List.getElem?_map]
 by_cases hq : q < n
 . rw [List.getElem?_range hq]
   by_cases e : i = q
   . subst e
     rw [if_pos rfl, if_pos hq]
     show _ = some (if i < i + 1 then ptr (if i = i then b else A i) else .pointer none)
     rw [if_pos (Nat.lt_succ_self _), if_pos rfl]
   . rw [if_neg e]
     show some (if q < i then ptr (A q) else .pointer none) = some (if q < i + 1 then ptr (if q = i then b else A q) else .pointer none)
     rw [if_neg (show ¬ q = i from fun x => e x.symm)]
     by_cases h : q < i
     . rw [if_pos h, if_pos (by omega)]
     . rw [if_neg h, if_neg (by omega)]
 . rw [List.getElem?_eq_none (l := List.range n) (by rw [List.length_range]; omega)]
   by_cases e : i = q
   . subst e; rw [if_pos rfl, if_neg hq]; rfl
   . rw [if_neg e]; rfl
theorem rowA_0 {A : Nat -> Nat} (n : Nat) : zrep n [Value.pointer none] = rowA A 0 n := by
 unfold rowA
 have : ((List.range n).map fun q => if q < 0 then ptr (A q) else Value.pointer none) = List.replicate n (.pointer none) := by
  rw [List.eq_replicate_iff]
  refine ⟨by rw [List.length_map, List.length_range], fun x hx => ?_⟩
  obtain ⟨q, _, rfl⟩ := List.mem_map.1 hx
  rw [if_neg (Nat.not_lt_zero q)]
 rw [this]
 induction n with
 | zero => rfl
 | succ n ih =>
  rw [List.replicate_succ, <- ih ?_]
  . rfl
  . rw [List.eq_replicate_iff]
    refine ⟨by rw [List.length_map, List.length_range], fun x hx => ?_⟩
    obtain ⟨q, _, rfl⟩ := List.mem_map.1 hx
    rw [if_neg (Nat.not_lt_zero q)]
structure Rw (g : Nat -> Sa) (lo n i : Nat) (A : Nat -> Nat) (bs : Nat) (h : AH) : Prop where
 sl : Cl h bs (rowA A i n)
 ac : ∀ q, q < i -> Cl h (A q) (accL (g q)) /\ lo ≤ A q /\ A q ≠ bs
 inj : ∀ q q', q < i -> q' < i -> A q = A q' -> q = q'
theorem Rw.step {g : Nat -> Sa} {lo n i : Nat} {A : Nat -> Nat} {bs ba : Nat} {h h1 h2 h3 : AH} (r : Rw g lo n i A bs h) (t1 : Sm Nix h h1) (hb : h.next ≤ ba) (hlo : lo ≤ ba) (c2 : Cl h2 bs (rowA (putA A i ba) (i + 1) n)) (t2 : Sm (fun x => x = bs) h1 h2) (t3 : Sm (fun x => x = ba) h2 h3) (c3 : Cl h3 ba (accL (g i))) :
   Rw g lo n (i + 1) (putA A i ba) bs h3 := by
 have hbs := r.sl.lt
 refine ⟨c2.sm t3 (show ¬ _ = _ by omega), fun q hq => ?_, fun q q' hq hq' e => ?_⟩
 . unfold putA
   by_cases e : q = i
   . rw [if_pos e, e]
     exact ⟨c3, hlo, by omega⟩
   . rw [if_neg e]
     obtain ⟨c, l1, l2⟩ := r.ac q (by omega)
     have := c.lt
     exact ⟨((c.ext t1).sm t2 l2).sm t3 (show ¬ _ = _ by omega), l1, l2⟩
 . unfold putA at e
   by_cases e1 : q = i
   . by_cases e2 : q' = i
     . rw [e1, e2]
     . rw [if_pos e1, if_neg e2] at e
       have := (r.ac q' (by omega)).1.lt
       omega
   . by_cases e2 : q' = i
     . rw [if_neg e1, if_pos e2] at e
       have := (r.ac q (by omega)).1.lt
       omega
     . rw [if_neg e1, if_neg e2] at e
       exact r.inj q q' (by omega) (by omega) e
variable [Tys]
structure Ac (h0 : AH) (n : Nat) (A : Nat -> Nat) (bs : Nat) (W : Wd) (G : Gh) (f : Nat -> Sa) (h : AH) : Prop where
 R : Rep W G h
 sm : Sm Nix h0 h
 mu : ∀ b, G.mut b -> h0.next ≤ b
 sl : Cl h bs (rowA A n n)
 sf : h0.next ≤ bs /\ ¬ G.mut bs /\ ¬ G.ro bs
 ac : ∀ q, q < n -> Cl h (A q) (accL (f q)) /\ h0.next ≤ A q /\ ¬ G.mut (A q) /\ ¬ G.ro (A q) /\ A q ≠ bs
 inj : ∀ q q', q < n -> q' < n -> A q = A q' -> q = q'
section
variable {h0 h h' : AH} {n : Nat} {A : Nat -> Nat} {bs : Nat} {W W' : Wd} {G G' : Gh} {f : Nat -> Sa}
theorem Ac.ext (Q : Ac h0 n A bs W G f h) (t : Sm Nix h h') : Ac h0 n A bs W G f h' :=
 ⟨Q.R.ext t, Q.sm.ext t, Q.mu, Q.sl.ext t, Q.sf, fun q hq => ⟨(Q.ac q hq).1.ext t, (Q.ac q hq).2⟩, Q.inj⟩
theorem Ac.gx (Q : Ac h0 n A bs W G f h) (R' : Rep W' G' h') (X : Gx G h G' h') : Ac h0 n A bs W' G' f h' := by
 have fr : ∀ b, b < h.next -> ¬ G.mut b -> ¬ G.ro b -> ¬ G'.mut b /\ ¬ G'.ro b := fun b hb h1 h2 =>
   ⟨fun hm => (X.mu b hm).elim h1 (fun e => by omega), fun hm => (X.ron b hm).elim h2 (fun e => by omega)⟩
 refine ⟨R', Q.sm.trans X.sm (fun b hb => .inr (Q.mu b hb)), fun b hb => (X.mu b hb).elim (Q.mu b) (fun e => Nat.le_trans Q.sm.nx e), Q.sl.sm X.sm Q.sf.2.1, ?_, fun q hq => ?_, Q.inj⟩
 . exact ⟨Q.sf.1, fr bs Q.sl.lt Q.sf.2.1 Q.sf.2.2⟩
 . obtain ⟨c, a1, a2, a3, a4⟩ := Q.ac q hq
   have := fr _ c.lt a2 a3
   exact ⟨c.sm X.sm a2, a1, this.1, this.2, a4⟩
theorem Ac.put {q : Nat} {x : Sa} (Q : Ac h0 n A bs W G f h) (hq : q < n) (t : Sm (fun b => b = A q) h h') (c : Cl h' (A q) (accL x)) : Ac h0 n A bs W G (put f q x) h' := by
 obtain ⟨c0, a1, a2, a3, a4⟩ := Q.ac q hq
 refine ⟨Q.R.sm t (fun b hb => by rw [show b = A q from hb]; exact ⟨a2, a3⟩), Q.sm.trans t (fun b hb => .inr (by rw [show b = A q from hb]; exact a1)), Q.mu, Q.sl.sm t (show ¬ _ = _ from fun e => a4 e.symm), Q.sf, fun j hj => ?_, Q.inj⟩
 obtain ⟨d0, b1⟩ := Q.ac j hj
 unfold Go.Nu.put
 by_cases e : j = q
 . subst e; rw [if_pos rfl]; exact ⟨c, b1⟩
 . rw [if_neg e]; exact ⟨d0.sm t (show ¬ _ = _ from fun x => e (Q.inj j q hj hq x)), b1⟩
theorem Ac.born {hW : AH} {g : Nat -> Sa} (R : Rep W G hW) (hsm : Sm Nix h0 hW) (hmu : ∀ b, G.mut b ∨ G.ro b -> h0.next ≤ b) (hb : hW.next ≤ bs) (r : Rw g hW.next n n A bs h) (t : Sm Nix hW h) : Ac h0 n A bs W G g h := by
 have lt : ∀ b, hW.next ≤ b -> ¬ G.mut b /\ ¬ G.ro b := fun b hb => ⟨R.op.new hb, R.op.newr hb⟩
 have nx := hsm.nx
 refine ⟨R.ext t, hsm.ext t, fun b hb => hmu b (.inl hb), r.sl, ⟨by omega, lt bs hb⟩, fun q hq => ?_, r.inj⟩
 obtain ⟨c, a1, a2⟩ := r.ac q hq
 have := lt _ a1
 exact ⟨c, by omega, this.1, this.2, a2⟩
end
end
end Go.Arm
namespace Go.Proofs.YtjealfplbigphaaGreat
noncomputable section
open Go Go.X Go.Arm Go.Mt Go.Nu
theorem jz7 {n : Nat} {W : Wd} {G : Gh} {h : AH} {k : Nat} {W' : Wd} (R : Rep W G h) (hn : W.n = n) (hbig : n < 1000) (hk : k < 500) (hs : Wd.SettS k W W') :
  Arm.Calls Tryz.prog 13 [ptr (G.B .wd), nv (n : Int)] h (fun r => r.1 = .bool true /\ Nxt W' G h r.2) := by
 subst hn
 exact xz8 R hbig hk hs
theorem Qz1 {A : Nat -> Nat} {i b : Nat} : putA A i b i = b := if_pos rfl
theorem uz4 {l : List Nat} {i : Nat} (hi : i < l.length) : (l.map uv)[i * 1 + 0]? = some (uv (l.getD i 0)) := by
 rw [Nat.mul_one, Nat.add_zero, List.getElem?_map, List.getElem?_eq_getElem hi, List.getD_eq_getElem?_getD, List.getElem?_eq_getElem hi]
 rfl
theorem bvs_at {par : By} {i : Nat} (hi : i < (par.map bv).length) : ∃ x : Nat, (par.map bv)[i]? = some (.int .u8 (x : Int)) /\ x < 256 := by
 rw [List.length_map] at hi
 exact ⟨par[i].toNat, by rw [List.getElem?_map, List.getElem?_eq_getElem hi]; rfl, UInt8.toNat_lt _⟩
theorem ok_ze {a : Sa} (h : a.ok) : a.ze ≤ 2 := by
 rcases h with e | e
 . omega
 . rw [e]; decide
set_option maxHeartbeats 2000000 in
theorem zq4 {h : AH} {sl sp : Value} {l : List Nat} {par : By} {E : Int} (HL : Sd h 1 sl l.length (l.map uv)) (HP : Rb h sp (par.map bv)) (h0 : 0 < l.length) (hl : l.length ≤ 12) (hx : ∀ i, l.getD i 0 < BB) (hE0 : 0 ≤ E) (hE1 : E ≤ 4096) :
  Arm.Calls Tryz.prog 4 [sl, sp, nv E] h (fun r => r.1 = .tuple ⟨[uv (sumL l).val, .bool true]⟩ /\ Sm Nix h r.2) := by
 refine j9 144 Tryz.f4 ?_
 have T0 : Sm Nix h h := .refl
 refine z1 2 kr (q5 (z1 1 kr (V4 _ rfl rfl kr ((HL.ext T0).len (T := 22) (el := 24) kr) (L_g 1 kr (q5 (q7 (q6 ?_)))))))
 refine L_g 2 kr (L_c rfl rfl kr (new_ok (n := l.length) (e := E) (c := 1) (by omega) hE0 hE1 (by omega) (by omega)) ?_)
 rintro v285 h285 ⟨G0, e285, R0, Z0, t285⟩
 dsimp only at e285 R0 t285
 subst e285
 have T285 := T0.ext t285
 have N285 := T285.nx
 have U285 : Sm Nix h285 h285 := .refl
 refine L_g 5 kr (q5 (q7 (z1 2 kr (q5 (Q2 kr (z6 (q7 (q6 (L_g 1 kr ?_)))))))))
 refine Q1 (zrep l.length [.pointer none]) (.sl l.length l.length) rfl rfl (ux9 (P := Tryz.prog) (k := 1) (el := 40) (z := .pointer none) (by_ := 8) kr kr kr kr rfl (by omega) kr kr) fun h286 c286 t286 n286 => ?_
 have T286 := T285.ext t286
 have U286 := U285.ext t286
 have N286 := T286.nx
 have NU286 := U286.nx
 rw [rowA_0 (A := fun _ => 0)] at c286
 refine L_g 1 kr (q5 (q7 (z1 2 kr (q5 (u3 ?_)))))
 refine J5 (fun mm fr hh => ∃ (i : Nat) (A : Nat -> Nat), (i ≤ l.length) /\ (Rw (fun q => oneB (l.getD q 0)) h285.next l.length i A (h285.next) hh) /\ (Sm Nix h285 hh) /\ mm = l.length - i /\ fr 0 = sl /\ fr 1 = sp /\ fr 8 = nv (l.length : Int) /\ fr 9 = ptr (G0.B .wd) /\ fr 11 = .slice (some ⟨h285.next, 0, none⟩) l.length l.length /\ fr 36 = nv (l.length : Int) /\ fr 37 = nv (i : Int) /\ Sm Nix h hh) (l.length) ?_ ?_
 ·
  exact ⟨0, _, (Nat.zero_le _), ⟨c286, (fun q hq => absurd hq (Nat.not_lt_zero q)), (fun q _ hq => absurd hq (Nat.not_lt_zero q))⟩, U286, rfl, kr, kr, kr, kr, kr, kr, kr, T286⟩
 rintro mm287 fr287 h287 ⟨i, A, hi, RW, UW, hm287, y287_0, y287_1, y287_8, y287_9, y287_11, y287_36, y287_37, T287⟩
 have N287 := T287.nx
 refine j8 (k := 0) y287_0 (j8 (k := 1) y287_1 (j8 (k := 8) y287_8 (j8 (k := 9) y287_9 (j8 (k := 11) y287_11 (j8 (k := 36) y287_36 (j8 (k := 37) y287_37 ?_))))))
 have NUW := UW.nx
 refine q7 (q6 (L_i ((i : Int)) ((l.length : Int)) (.bool (decide ((i : Int) < (l.length : Int)))) rfl rfl kr kr rfl (rfl) (q5 (q7 ?_))))
 refine Q0 (decide ((i : Int) < (l.length : Int))) kr (fun hb => ?_) (fun hb => ?_)
 ·
  have hlt : i < l.length := by simp at hb; omega
  refine z6 (q7 (u3 (z1 2 kr (q5 (z1 2 kr (L_c rfl rfl kr (yx1) ?_))))))
  rintro v288 h288 ⟨ba, e288, hba, c900, t288⟩
  dsimp only at e288 hba c900 t288
  subst e288
  have cbs := RW.sl.ext t288
  have tA := t288
  have lba := c900.lt
  have lbs := cbs.lt
  have lbs0 := RW.sl.lt
  have T288 := T287.ext t288
  have N288 := T288.nx
  have U288 := UW.ext t288
  have NU288 := U288.nx
  refine Z8 _ rfl rfl kr kr (ixS (T := 39) (el := 40) (b := h285.next) kr kr hlt) ?_
  obtain ⟨h289, e289, d289, t289, n289⟩ := cbs.store (P := Tryz.prog) (T := 40) (o := i) (v := ptr ba) kr rfl rfl (by rw [yu6]; exact hlt)
  rw [jg1] at d289
  replace c900 := c900.sn t289
  replace cbs := d289
  have T289 := T288.tr t289
  have U289 := U288.tr t289
  have N289 := T289.nx
  have NU289 := U289.nx
  refine Q3 _ rfl rfl rfl kr kr (e289) ?_
  have tB := t289
  have cB := cbs
  refine q5 (q7 (u4 kr (D_e (e := 8) (l := [0,1,2,3,4,5,6,7]) (s' := []) kr kr rfl kr z4 (z2 2 kr (U0 _ rfl rfl kr kr kr kr (ixS (T := 39) (el := 40) (b := h285.next) kr kr hlt) (q9 _ rfl rfl kr kr kr (cbs.ld (o := i) kr ((zx1 hlt (Nat.lt_succ_self i)).trans (by rw [Qz1]))) (z2 2 kr ?_)))))))
  obtain ⟨be, oe, ve, ie, le⟩ := (HL.ext T289).at (P := Tryz.prog) (T := 22) (el := 24) kr kr hlt .i64
  refine U0 _ rfl rfl kr kr kr kr (ie) (q9 _ rfl rfl kr kr kr (K5 kr ((le 0 (by decide)).trans (uz4 hlt))) (z5 ?_))
  have hz1 := ((yq2 l 0 (by decide)).add (Bd.one (l.getD i 0)) (by decide)).len (by decide)
  refine L_c rfl rfl kr (xg6 (x := l.getD i 0) c900 (hx i) hz1) ?_
  rintro v290 h290 ⟨e290, d290, t290⟩
  dsimp only at e290 d290 t290
  subst e290
  rw [Sa.z_add (Bd.one _).1] at d290
  have RWn := RW.step tA hba (by omega) cB tB t290 d290
  replace c900 := c900
  replace cbs := cbs
  have T290 : Sm Nix h h290 := T289.trans t290 (fun x hx => .inr (by have hx : x = ba := hx; omega))
  have N290 := T290.nx
  have U290 : Sm Nix h285 h290 := U289.trans t290 (fun x hx => .inr (by have hx : x = ba := hx; omega))
  have NU290 := U290.nx
  refine q5 ⟨rfl, ?_⟩
  refine D_l (l := [9]) kr kr z4 (z2 1 kr (z5 (Q2 kr (z6 (q6 (L_i ((i : Int)) (1) (nv ((i + 1 : Nat) : Int)) rfl rfl kr kr rfl (Z4 (by omega)) (L_g 1 kr (q5 ?_))))))))
  exact ⟨l.length - (i + 1), by omega, i + 1, putA A i ba, by omega, RWn, U290, rfl, kr, kr, kr, kr, kr, kr, kr, T290⟩
 ·
  have hge : i = l.length := by simp at hb; omega
  subst hge
  have QQ := Ac.born R0 T285 Z0 (by omega) RW UW
  have TQ : Sm Nix h287 h287 := .refl
  refine J8 ?_
  refine rx ?_
  refine Q7 (q7 (z1 1 kr (L_p (nv ((l.length - 1 : Nat) : Int)) rfl (Go.Arm.ev_bin (o := _) rfl kr kr (qj2 (a := l.length) (b := 1) (by omega) (by omega))) (L_g 1 kr (q5 (u3 ?_))))))
  refine J5 (fun mm fr hh => ∃ (p : Nat) (W : Wd) (G : Gh) (f : Nat -> Sa), mm = p /\ p < l.length /\ Ac h l.length A (h285.next) W G f hh /\ Rst E l.length (l.length - p) W /\ Fi f (p + 1) l.length (sumL l) /\ G.B .wd = G0.B .wd /\ fr 0 = sl /\ fr 1 = sp /\ fr 8 = nv (l.length : Int) /\ fr 9 = ptr (G0.B .wd) /\ fr 11 = .slice (some ⟨h285.next, 0, none⟩) l.length l.length /\ fr 13 = nv (p : Int)) (l.length - 1) ?_ ?_
  ·
   exact ⟨l.length - 1, _, G0, _, rfl, by omega, ((QQ).ext TQ), (by rw [show l.length - (l.length - 1) = 1 by omega]; exact Rst.born), (by rw [show l.length - 1 + 1 = l.length by omega]; exact Fi.start l), rfl, kr, kr, kr, kr, kr, kr⟩
  rintro mm fr hh ⟨p, W, G, f, hm, hp, QL, RS, FI, hB, y0, y1, y8, y9, y11, y13⟩
  rw [<- hB] at y9
  refine j8 (k := 0) y0 (j8 (k := 1) y1 (j8 (k := 8) y8 (j8 (k := 9) y9 (j8 (k := 11) y11 (j8 (k := 13) y13 ?_)))))
  have TL : Sm Nix hh hh := .refl
  refine q7 (z1 1 kr (L_i ((p : Int)) (0) (.bool (decide (0 < p))) rfl rfl kr kr rfl (gtI p) (q5 ?_)))
  refine Q0 (decide (0 < p)) kr (fun hb => ?_) (fun hb => ?_)
  ·
   have hp0 : 0 < p := of_decide_eq_true hb
   obtain ⟨t, rfl⟩ : ∃ t, p = t + 1 := ⟨p - 1, by omega⟩
   refine z6 (q7 (u3 (z1 1 kr (q5 ?_))))
   refine zy0 (fun fr hc => ∃ to : Nat, to < t + 1 /\ hh = hc /\ fr 0 = sl /\ fr 1 = sp /\ fr 8 = nv (l.length : Int) /\ fr 9 = ptr (G.B .wd) /\ fr 11 = .slice (some ⟨h285.next, 0, none⟩) l.length l.length /\ fr 13 = nv ((t + 1 : Nat) : Int) /\ fr 14 = nv (to : Int)) ?_ ?_
   ·
    refine z1 1 kr (V4 _ rfl rfl kr (HP.lenA (T := 23) (el := 5) kr _) (L_i (((par.map bv).length : Int)) (0) (.bool (decide (0 < (par.map bv).length))) rfl rfl kr kr rfl (gtI _) (q5 ?_)))
    refine Q0 (decide (0 < (par.map bv).length)) kr (fun hb => ?_) (fun hb => ?_)
    ·
     have hpl : 0 < (par.map bv).length := of_decide_eq_true hb
     obtain ⟨x9, hx8, hx9⟩ := bvs_at (par := par) (i := t % (par.map bv).length) (Nat.mod_lt _ hpl)
     obtain ⟨be, oe, ie, le, _, _⟩ := zw5 (P := Tryz.prog) (T := 23) (el := 5) kr kr kr HP hx8
     refine Z3 2 kr (L_p (nv (t : Int)) rfl (Go.Arm.ev_bin (o := _) rfl kr kr (qj2 (a := t + 1) (b := 1) (by omega) (by omega))) (L_g 1 kr (V4 _ rfl rfl kr (HP.lenA (T := 23) (el := 5) kr _) (L_p (nv ((t % (par.map bv).length : Nat) : Int)) rfl (Go.Arm.ev_bin (o := _) rfl kr kr (jg4 hpl)) (Z8 _ rfl rfl kr kr (ie) (z9 _ rfl rfl kr (le _ _ (((QL).ext TL)).sm (fun x => x)) (L_p (nv (x9 : Int)) rfl (Go.Arm.ev_conv (o := _) rfl kr (K3 hx9)) (L_g 1 kr (L_p (nv ((x9 % (t + 1) : Nat) : Int)) rfl (Go.Arm.ev_bin (o := _) rfl kr kr (jg4 (Nat.succ_pos t))) (L_g 1 kr ?_))))))))))
     refine q5 ?_
     exact ⟨x9 % (t + 1), Nat.mod_lt _ (Nat.succ_pos t), rfl, kr, kr, kr, kr, kr, kr, kr⟩
    ·
     refine z6 ?_
     exact ⟨0, Nat.succ_pos t, rfl, kr, kr, kr, kr, kr, kr, kr⟩
   ·
    rintro fc hc ⟨to, hto, rfl, y0, y1, y8, y9, y11, y13, y14⟩
    refine j8 (k := 0) y0 (j8 (k := 1) y1 (j8 (k := 8) y8 (j8 (k := 9) y9 (j8 (k := 11) y11 (j8 (k := 13) y13 (j8 (k := 14) y14 (z1 2 kr (Z8 _ rfl rfl kr kr (ixS (T := 39) (el := 40) (b := h285.next) kr kr hp) (z9 _ rfl rfl kr ((((QL).ext TL)).sl.ld (o := t + 1) kr (zx1 hp hp)) ?_)))))))))
    have hnmx : ∀ b, Gh.mut G b -> b < hh.next := fun b hb => (((QL).ext TL)).R.op.lt hb
    refine L_c rfl rfl kr (qy4 ((((QL).ext TL)).ac (t + 1) hp).1 (FI.bd hl (Nat.lt_succ_self _)).1 (ok_ze (FI.ok _ (Nat.lt_succ_self _))) (FI.bd hl (Nat.lt_succ_self _)).2) ?_
    rintro v291 h291 ⟨se, e291, BE, t291, fe⟩
    dsimp only at e291 BE t291
    subst e291
    have Q291 := (((QL).ext TL)).ext t291
    have hnm : ∀ q, vb se = some q -> ¬ Gh.mut G q := fun q hq hm => by have := hnmx q hm; have := fe q hq; omega
    have T291 : Sm Nix h291 h291 := .refl
    refine L_g 5 kr (q5 (q7 (z1 2 kr (q5 (Q2 kr (z6 (q7 (q7 (q6 ?_)))))))))
    refine L_g 4 kr ?_
    have hnb : (f (t + 1)).nb ≤ 280 := by have := (FI.bd hl (Nat.lt_succ_self _)).2; unfold Sa.nb; omega
    obtain ⟨W2, W3, V2, V3, W5, m, x1, x2, x3, x4, x5, x6, x7, x8, x9', x10, x11, x12, x13, x14, x15, x16, x17, x18, x19, x20, x21⟩ := RS.exch (q := to) (p := t + 1) (d := (f (t + 1)).enc) hto hp (by omega) (by rw [qz4]; omega)
    refine L_c rfl rfl kr (jw7 (p := t + 1) (q := to) (ctx := 0) (tag := 1) (sync := false) (((Q291).ext T291)).R (by rw [RS.n_]; exact hp) (by rw [RS.n_]; omega) (by decide) (by decide) (by decide) (by decide) x4 (by rw [qz4]; omega) (BE.rb.ext T291) hnm x1 x2 x3) ?_
    rintro v292 h292 ⟨e292, b292, S292, C292, r292, R292, X292⟩
    dsimp only at e292 R292 X292
    subst e292
    have Q292 := (((Q291).ext T291)).gx R292 X292
    have T292 : Sm Nix h292 h292 := .refl
    refine L_g 5 kr (q5 (z1 2 kr (q5 (Q2 kr (z6 (z1 2 kr (L_c rfl rfl kr (Qq8 (p := to) (ctx := 0) (tag := 1) (room := 300) (((Q292).ext T292)).R (by rw [x5]; omega) (by decide) (by decide) (by decide) (by decide) (by decide) (by decide) x9' x6 x7 x8) ?_)))))))
    rintro v293 h293 ⟨e293, b293, S293, C293, r293, R293, X293⟩
    dsimp only at e293 R293 X293
    rw [x11] at e293
    subst e293
    have Q293 := (((Q292).ext T292)).gx R293 X293
    have T293 : Sm Nix h293 h293 := .refl
    refine L_g 5 kr (q5 (q7 (z1 5 kr (u9 kr (L_c rfl rfl kr (jz7 (((Q293).ext T293)).R x10 (by omega) (by omega) x12) ?_)))))
    rintro v294 h294 ⟨e294, S294, C294, r294, R294, X294⟩
    dsimp only at e294 R294 X294
    subst e294
    have Q294 := (((Q293).ext T293)).gx R294 X294
    have T294 : Sm Nix h294 h294 := .refl
    refine L_g 2 kr (q5 (Q2 kr (z6 (z1 3 kr (L_c rfl rfl kr (jq1 (p := to) (no := (W3.pr to).next) (((Q294).ext T294)).R (by rw [x14]; omega) x15 x16 x17 x18 x19 (by rw [x20, qz4]; exact Nat.lt_of_le_of_lt (show (f (t + 1)).nb + 2 ≤ 282 by omega) (by decide))) ?_)))))
    rintro v295 h295 ⟨vd, e295, HD, HC, fd, S295, C295, r295, R295, X295⟩
    dsimp only at e295 HD HC R295 X295
    subst e295
    rw [x20] at HD HC
    have Q295 := (((Q294).ext T294)).gx R295 X295
    have T295 : Sm Nix h295 h295 := .refl
    refine L_g 5 kr (Q1 [nv 0, nv 0, nv 0, nv 0] .ptr rfl rfl kr fun h296 c296 t296 n296 => ?_)
    have T296 := T295.ext t296
    have N296 := T296.nx
    obtain ⟨h297, e297, d297, t297, n297⟩ := c296.sA 50 [nv (W5.rq to (W3.pr to).next).st.src, nv (W5.rq to (W3.pr to).next).st.tag, nv (W5.rq to (W3.pr to).next).st.size, nv (W5.rq to (W3.pr to).next).st.err]
    replace c296 := d297
    have T297 := T296.tr t297
    have N297 := T297.nx
    refine Q3 _ rfl rfl rfl kr kr (e297) (L_g 3 kr (q5 (q7 (z1 6 kr (q5 (Q2 kr (z6 (q7 (q6 ?_)))))))))
    refine L_g 1 kr (L_c rfl rfl kr (jj8 (a := f (t + 1)) (HD.ext T297) (HC.sm T297 (fun _ _ x => x)) (FI.bd hl (Nat.lt_succ_self _)).1 (FI.bd hl (Nat.lt_succ_self _)).2 (FI.ok _ (Nat.lt_succ_self _))) ?_)
    rintro v298 h298 ⟨bd, e298, hbd, cD, t298⟩
    dsimp only at e298 cD t298
    subst e298
    have Q298 := (((Q295).ext T297)).ext t298
    replace c296 := c296
    have T298 : Sm Nix h298 h298 := .refl
    refine L_g 5 kr (q5 (z1 5 kr (u9 kr (Z8 _ rfl rfl kr kr (ixS (T := 39) (el := 40) (b := h285.next) kr kr (show to < l.length by omega)) (u9 kr (z9 _ rfl rfl kr ((((Q298).ext T298)).sl.ld (o := to) kr (zx1 (by omega) (by omega))) (L_g 1 kr ?_)))))))
    have FS := FI.step hl hto
    refine u9 kr (L_c rfl rfl kr (ju4 ((((Q298).ext T298)).ac to (by omega)).1 (cD.ext T298) FS.1) ?_)
    rintro v299 h299 ⟨e299, d299, t299⟩
    dsimp only at e299 d299 t299
    subst e299
    have Q299 := (((Q298).ext T298)).put (by omega) t299 d299
    have T299 : Sm Nix h299 h299 := .refl
    refine L_g 2 kr (q5 (Q2 kr (z6 (Z3 1 kr (L_p (nv (t : Int)) rfl (Go.Arm.ev_bin (o := _) rfl kr kr (qj2 (a := t + 1) (b := 1) (by omega) (by omega))) (L_g 1 kr (q5 ?_)))))))
    exact ⟨t, by omega, t, _, _, _, rfl, by omega, ((Q299).ext T299), (by rw [show l.length - t = l.length - (t + 1) + 1 by omega]; exact x21), FS.2, (show Gh.B (⟨Gh.B (⟨Gh.B (⟨ups (Gh.B (⟨ups (Gh.B G) (.rq (t + 1) (W.pr (t + 1)).next) b292, S292, C292, r292⟩ : Gh)) (.rq to (W3.pr to).next) b293, S293, C293, r293⟩ : Gh), S294, C294, r294⟩ : Gh), S295, C295, r295⟩ : Gh) .wd = G.B .wd from by kernel_rfl).trans hB, kr, kr, kr, (by rw [<- hB]; kernel_rfl), kr, kr⟩
  ·
   have hp0 : ¬ 0 < p := of_decide_eq_false hb
   obtain rfl : p = 0 := by omega
   refine J8 ?_
   refine rx ?_
   refine Q7 (z1 1 kr (Z8 _ rfl rfl kr kr (ixS (T := 39) (el := 40) (b := h285.next) (i := 0) kr kr (by omega)) (z9 _ rfl rfl kr ((((QL).ext TL)).sl.ld (o := 0) kr (zx1 (by omega) (by omega))) (L_c rfl rfl kr (yx8 ((((QL).ext TL)).ac 0 (by omega)).1 (FI.bd hl (by omega)).1) ?_))))
   rintro v300 h300 ⟨e300, t300⟩
   try dsimp only at e300 t300
   subst e300
   rw [FI.last]
   have T300 := TL.ext t300
   have N300 := T300.nx
   have M300 := t300.nx
   refine L_g 2 kr (q5 (j7 ?_))
   refine rr ?_
   refine z0 (v := .tuple ⟨[uv (sumL l).val, .bool true]⟩) (.inl rfl) kr ?_
   exact ⟨rfl, (((QL).ext T300)).sm⟩
end
end Go.Proofs.YtjealfplbigphaaGreat
