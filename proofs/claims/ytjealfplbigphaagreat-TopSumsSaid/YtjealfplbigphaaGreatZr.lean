/- Worlds of the program and walks of its functions. -/
import Derived.Test.YtjealfplbigphaaGreatZq
import Derived.Test.YtjealfplbigphaaGreatZk
import Derived.Test.YtjealfplbigphaaGreatZj
import Derived.Test.YtjealfplbigphaaGreatZp
import Derived.Test.YtjealfplbigphaaGreatZl
namespace Go.Proofs.YtjealfplbigphaaGreat
noncomputable section
open Go Go.X Go.Arm Go.Mt Go.Nu
theorem zx3 {h : AH} {v : Bool} {x : Nat} : Arm.Calls Tryz.prog 25 [.bool v, .int .u8 (x : Int)] h (fun r => r.1 = .int .u8 (b2n v x : Int) /\ Sm Nix h r.2) := by
 refine Q5 (n := 7) (fn := Tryz.f25) kr rfl rfl (Nat.le_of_ble_eq_true rfl) trivial ⟨.inl (fun e => by cases e), rfl⟩ ?_
 have T0 : Sm Nix h h := .refl
 refine z1 1 kr (q5 (q7 (z1 1 kr (q5 ?_))))
 refine Q0 (v) kr (fun hb => ?_) (fun hb => ?_)
 ·
  refine z1 2 kr (q5 (j7 ?_))
  refine rr ?_
  refine z0 (v := .int .u8 ((x : Int))) (.inl rfl) kr ?_
  exact ⟨by rw [hb]; rfl, T0⟩
 ·
  refine z6 (z1 1 kr (q5 (j7 ?_)))
  refine rr ?_
  refine z0 (v := .int .u8 (0)) (.inl rfl) kr ?_
  exact ⟨by rw [hb]; rfl, T0⟩
theorem qy7 {h : AH} {b : Nat} {a : Sa} (c900 : Arm.Cl h b (accL a)) : Arm.Calls Tryz.prog 22 [ptr b] h (fun r => r.1 = .bool true /\ Sm Nix h r.2) := by
 refine Q5 (n := 11) (fn := Tryz.f22) kr rfl rfl (Nat.le_of_ble_eq_true rfl) trivial ⟨.inl (fun e => by cases e), rfl⟩ ?_
 have T0 : Sm Nix h h := .refl
 refine z1 1 kr (q5 (z1 6 kr (u9 kr (z9 _ rfl rfl kr ((c900.ext T0).ld (o := 0) kr rfl) (L_g 2 kr (q5 (j7 ?_)))))))
 refine rr ?_
 refine z0 (v := .bool true) (.inl rfl) kr ?_
 exact ⟨rfl, T0⟩
theorem yx1 {h : AH} : Arm.Calls Tryz.prog 8 [] h (fun r => ∃ b, r.1 = ptr b /\ h.next ≤ b /\ Arm.Cl r.2 b (accL Sa.z) /\ Sm Nix h r.2) := by
 refine Q5 (n := 3) (fn := Tryz.f8) kr rfl rfl (Nat.le_of_ble_eq_true rfl) trivial ⟨.inl (fun e => by cases e), rfl⟩ ?_
 have T0 : Sm Nix h h := .refl
 refine z1 1 kr (q5 (q7 (q6 (L_p (.agg ⟨accL Sa.z⟩) rfl kr (Q1 (accL Sa.z) .ptr rfl rfl kr fun h65 c65 t65 n65 => ?_)))))
 have T65 := T0.ext t65
 have N65 := T65.nx
 refine L_g 1 kr (q5 (j7 ?_))
 refine rr ?_
 refine z0 (v := ptr (h.next)) (.inl rfl) kr ?_
 exact ⟨_, rfl, Nat.le_refl _, c65, T65⟩
theorem zy4 (x y : Nat) : Value.int .i64 (max (x : Int) (y : Int)) = nv ((max x y : Nat) : Int) := by
 unfold nv; congr 1; omega
theorem F6 {n : Nat} {f : Fr} {h : AH} {o : Oper} {T : TypeId} {ps : List (Nat × Operand)} {l : List (Nat × Value)} {v : Value} (hop : o.op = .build T ⟨ps⟩) (hp : evP n f ps = some l) (hv : aBuild Tryz.prog T l = some v) : evVal Tryz.prog n f h o.op = some v := by
 rw [hop]
 simp only [evVal, hp]
 exact hv
set_option maxRecDepth 100000 in
theorem F8 {w : Nat -> Nat} {x y z : Bool} {u : Int} : aBuild Tryz.prog 81 [(0, .agg ⟨wl w⟩), (1, .bool x), (2, .bool y), (3, .bool z), (4, nv u)] = some (.agg ⟨wl w ++ [.bool x, .bool y, .bool z, nv u]⟩) := by kernel_rfl
theorem yv4 {h : AH} {b : Nat} {a q : Sa} (c900 : Arm.Cl h b (accL a)) (hl : lenN (absN ((a.s + q.s) % MM)) ≤ 2240) :
  Arm.Calls Tryz.prog 23 [ptr b, .agg ⟨q.cells⟩] h (fun r => r.1 = nv 0 /\ Arm.Cl r.2 b (accL (a.add q)) /\ Sm (fun x => x = b) h r.2) := by
 have hlb := c900.lt
 obtain ⟨s0, na, pl, mi, ze⟩ := a
 have hl : lenN (absN ((s0 + q.s) % MM)) ≤ 2240 := hl
 refine Q5 (n := 58) (fn := Tryz.f23) kr rfl rfl (Nat.le_of_ble_eq_true rfl) trivial ⟨.inl (fun e => by cases e), rfl⟩ ?_
 have T0 : Sm (fun x => x = b) h h := .refl
 refine q7 (q6 (Q1 (Sa.cells q) .ptr rfl rfl kr fun h66 c66 t66 n66 => ?_))
 replace c900 := c900.ext t66
 have T66 : Sm (fun x => x = b) h h66 := T0.ext t66
 have N66 := T66.nx
 refine L_g 1 kr (q5 (q7 (u4 kr (D_e (e := 7) (l := [0,1,2,3,4,5,6,8]) (s' := [8]) kr kr rfl kr z4 (z2 4 kr (q9 _ rfl rfl kr kr kr ((Cl.ldS (o := 1) (k := 36) c900 kr (by rw [Z1]; decide)).trans (by rw [E6])) (z2 1 kr (q9 _ rfl rfl kr kr kr ((Cl.ldS (o := 0) (k := 36) c66 kr (by rw [j6]; decide)).trans (by rw [qy5])) (qu8 (wl (fun _ => 0)) .ptr rfl kr rfl rfl kr (z3 rfl rfl (z3 rfl rfl (z3 rfl rfl (z3 rfl rfl (u6 _ rfl rfl rfl kr ((Cl.ldS (o := 1) (k := 36) (c900.ext (.push h66 _)) kr (by rw [Z1]; decide)).trans (by rw [E6])) kr (z3 rfl rfl (u6 _ rfl rfl rfl kr ((Cl.ldS (o := 0) (k := 36) (c66.ext (.push h66 _)) kr (by rw [j6]; decide)).trans (by rw [qy5])) kr (z3 rfl rfl z4)))))))) fun h67 c67 t67 n67 => ?_)))))))))
 replace c900 := c900.ext t67
 replace c66 := c66.ext t67
 have T67 : Sm (fun x => x = b) h h67 := T66.ext t67
 have N67 := T67.nx
 refine z5 (L_c rfl rfl kr (xv9 (X := s0) (Y := q.s)) ?_)
 rintro v68 h68 ⟨e68, t68⟩
 try dsimp only at e68 t68
 subst e68
 replace c900 := c900.ext t68
 replace c66 := c66.ext t68
 replace c67 := c67.ext t68
 have T68 : Sm (fun x => x = b) h h68 := T67.ext t68
 have N68 := T68.nx
 have M68 := t68.nx
 refine q5 ⟨rfl, ?_⟩
 refine D_e (e := 9) (l := []) (s' := []) kr kr rfl kr (E0 kr) (z5 ?_)
 obtain ⟨h69, e69, d69, t69, n69⟩ := Cl.storeN (P := Tryz.prog) (T := 79) (n := 36) (v := .agg ⟨(wl (word ((s0 + q.s) % MM)))⟩) (cs := (wl (word ((s0 + q.s) % MM)))) c67 (u5 _) kr rfl (u5 _) K7
 replace c900 := c900.sn t69
 replace c66 := c66.sn t69
 replace c67 := d69
 have T69 : Sm (fun x => x = b) h h69 := T68.tr t69
 have N69 := T69.nx
 refine Q3 _ rfl rfl rfl kr kr (e69) ?_
 refine q5 ⟨rfl, ?_⟩
 refine D_l (l := []) kr kr z4 (z5 (q7 (q7 (q6 (z9 _ rfl rfl kr (Cl.allN (n := 36) c67 (u5 _) kr) (L_c rfl rfl kr (yq6 (X := ((s0 + q.s) % MM)) (Nat.mod_lt _ zu8)) ?_))))))
 rintro v70 h70 ⟨e70, t70⟩
 try dsimp only at e70 t70
 subst e70
 replace c900 := c900.ext t70
 replace c66 := c66.ext t70
 replace c67 := c67.ext t70
 have T70 : Sm (fun x => x = b) h h70 := T69.ext t70
 have N70 := T70.nx
 have M70 := t70.nx
 refine L_c rfl rfl kr (zz0 (X := absN ((s0 + q.s) % MM))) ?_
 rintro v71 h71 ⟨e71, t71⟩
 try dsimp only at e71 t71
 subst e71
 replace c900 := c900.ext t71
 replace c66 := c66.ext t71
 replace c67 := c67.ext t71
 have T71 : Sm (fun x => x = b) h h71 := T70.ext t71
 have N71 := T71.nx
 have M71 := t71.nx
 refine L_i ((lenN (absN ((s0 + q.s) % MM)) : Int)) (2240) (.bool false) rfl rfl kr kr rfl (congrArg Value.bool (decide_eq_false (by omega))) (q5 (Q2 kr (z6 (q7 ?_))))
 cases na <;> cases pl <;> cases mi
 ·
  refine u4 kr (D_e (e := 36) (l := [0,1,2,3,4,5,6,7,8,9,10,11,12,13,14,15,16,17,18,19,20,21,22,23,24,25,26,27,28,29,30,31,32,33,34,35]) (s' := [0,1,2,3,4,5,6,7,8,9,10,11,12,13,14,15,16,17,18,19,20,21,22,23,24,25,26,27,28]) kr kr rfl kr z4 (z2 1 kr (q9 _ rfl rfl kr kr kr (Cl.allN (n := 36) c67 (u5 _) kr) (z2 4 kr (q9 _ rfl rfl kr kr kr (c900.ld (o := 37) kr U3) (z2 2 kr (q9 _ rfl rfl kr kr kr (c66.ld (o := 36) kr (Q6 (k := 0))) (z2 5 kr (q9 _ rfl rfl kr kr kr (c900.ld (o := 38) kr U2) (z2 2 kr (q9 _ rfl rfl kr kr kr (c66.ld (o := 37) kr (Q6 (k := 1))) ?_)))))))))))
  refine z2 5 kr (q9 _ rfl rfl kr kr kr (c900.ld (o := 39) kr U6) (z2 2 kr (q9 _ rfl rfl kr kr kr (c66.ld (o := 38) kr (Q6 (k := 2))) (z2 5 kr (q9 _ rfl rfl kr kr kr (c900.ld (o := 40) kr J9) (z2 1 kr (q9 _ rfl rfl kr kr kr (c66.ld (o := 39) kr (Q6 (k := 3))) (z5 (V9 (nv ((max ze q.ze : Nat) : Int)) _ rfl rfl kr (vs := [nv (ze : Int), nv (q.ze : Int)]) kr (qx9.trans (by rw [zy4])) ?_)))))))))
  refine q5 ⟨rfl, ?_⟩
  refine D_e (e := 40) (l := [37,38,39]) (s' := []) kr kr rfl kr (z3 rfl rfl (u6 _ rfl rfl rfl kr (Cl.allN (n := 36) c67 (u5 _) kr) kr (z3 rfl rfl (z3 rfl rfl (z3 rfl rfl (z3 rfl rfl (u6 _ rfl rfl rfl kr (c900.ld (o := 37) kr U3) kr (z3 rfl rfl (z3 rfl rfl (u6 _ rfl rfl rfl kr (c66.ld (o := 36) kr (Q6 (k := 0))) kr (z3 rfl rfl (z3 rfl rfl (z3 rfl rfl (z3 rfl rfl (z3 rfl rfl (u6 _ rfl rfl rfl kr (c900.ld (o := 38) kr U2) kr (z3 rfl rfl (z3 rfl rfl (u6 _ rfl rfl rfl kr (c66.ld (o := 37) kr (Q6 (k := 1))) kr (z3 rfl rfl (z3 rfl rfl (z3 rfl rfl (z3 rfl rfl (z3 rfl rfl (u6 _ rfl rfl rfl kr (c900.ld (o := 39) kr U6) kr (z3 rfl rfl (z3 rfl rfl (u6 _ rfl rfl rfl kr (c66.ld (o := 38) kr (Q6 (k := 2))) kr (z3 rfl rfl z4))))))))))))))))))))))))))))) (U8 (.agg ⟨(Sa.add ⟨s0, false, false, false, ze⟩ q).cells⟩) rfl kr rfl kr (F6 (o := _) rfl kr (F8 (w := word ((s0 + q.s) % MM)))) (z2 2 kr (z5 ?_)))
  obtain ⟨h72, e72, d72, t72, n72⟩ := Cl.storeAt (P := Tryz.prog) (T := 81) (o := 1) (v := .agg ⟨(Sa.add ⟨s0, false, false, false, ze⟩ q).cells⟩) (vs := (Sa.add ⟨s0, false, false, false, ze⟩ q).cells) c900 (by rw [j6]; kernel_rfl) rfl (by rw [j6, Z1]; decide) J2
  rw [qz7] at d72
  replace c900 := d72
  have T72 : Sm (fun x => x = b) h h72 := T71.tr t72
  have N72 := T72.nx
  refine Q3 _ rfl rfl rfl kr kr (e72) ?_
  refine q5 ⟨rfl, ?_⟩
  refine D_l (l := []) kr kr z4 (z5 (z1 1 kr (q5 (j7 ?_))))
  refine rr ?_
  refine z0 (v := nv 0) (.inl rfl) kr ?_
  exact ⟨rfl, c900, T72⟩
 ·
  refine u4 kr (D_e (e := 36) (l := [0,1,2,3,4,5,6,7,8,9,10,11,12,13,14,15,16,17,18,19,20,21,22,23,24,25,26,27,28,29,30,31,32,33,34,35]) (s' := [0,1,2,3,4,5,6,7,8,9,10,11,12,13,14,15,16,17,18,19,20,21,22,23,24,25,26,27,28]) kr kr rfl kr z4 (z2 1 kr (q9 _ rfl rfl kr kr kr (Cl.allN (n := 36) c67 (u5 _) kr) (z2 4 kr (q9 _ rfl rfl kr kr kr (c900.ld (o := 37) kr U3) (z2 2 kr (q9 _ rfl rfl kr kr kr (c66.ld (o := 36) kr (Q6 (k := 0))) (z2 5 kr (q9 _ rfl rfl kr kr kr (c900.ld (o := 38) kr U2) (z2 2 kr (q9 _ rfl rfl kr kr kr (c66.ld (o := 37) kr (Q6 (k := 1))) ?_)))))))))))
  refine z2 5 kr (q9 _ rfl rfl kr kr kr (c900.ld (o := 39) kr U6) (z2 8 kr (q9 _ rfl rfl kr kr kr (c900.ld (o := 40) kr J9) (z2 1 kr (q9 _ rfl rfl kr kr kr (c66.ld (o := 39) kr (Q6 (k := 3))) (z5 (V9 (nv ((max ze q.ze : Nat) : Int)) _ rfl rfl kr (vs := [nv (ze : Int), nv (q.ze : Int)]) kr (qx9.trans (by rw [zy4])) ?_)))))))
  refine q5 ⟨rfl, ?_⟩
  refine D_e (e := 40) (l := [37,38,39]) (s' := []) kr kr rfl kr (z3 rfl rfl (u6 _ rfl rfl rfl kr (Cl.allN (n := 36) c67 (u5 _) kr) kr (z3 rfl rfl (z3 rfl rfl (z3 rfl rfl (z3 rfl rfl (u6 _ rfl rfl rfl kr (c900.ld (o := 37) kr U3) kr (z3 rfl rfl (z3 rfl rfl (u6 _ rfl rfl rfl kr (c66.ld (o := 36) kr (Q6 (k := 0))) kr (z3 rfl rfl (z3 rfl rfl (z3 rfl rfl (z3 rfl rfl (z3 rfl rfl (u6 _ rfl rfl rfl kr (c900.ld (o := 38) kr U2) kr (z3 rfl rfl (z3 rfl rfl (u6 _ rfl rfl rfl kr (c66.ld (o := 37) kr (Q6 (k := 1))) kr (z3 rfl rfl (z3 rfl rfl (z3 rfl rfl (z3 rfl rfl (z3 rfl rfl (u6 _ rfl rfl rfl kr (c900.ld (o := 39) kr U6) kr (z3 rfl rfl (z3 rfl rfl (qj5 rfl kr (z3 rfl rfl z4))))))))))))))))))))))))))))) (U8 (.agg ⟨(Sa.add ⟨s0, false, false, true, ze⟩ q).cells⟩) rfl kr rfl kr (F6 (o := _) rfl kr (F8 (w := word ((s0 + q.s) % MM)))) (z2 2 kr (z5 ?_)))
  obtain ⟨h73, e73, d73, t73, n73⟩ := Cl.storeAt (P := Tryz.prog) (T := 81) (o := 1) (v := .agg ⟨(Sa.add ⟨s0, false, false, true, ze⟩ q).cells⟩) (vs := (Sa.add ⟨s0, false, false, true, ze⟩ q).cells) c900 (by rw [j6]; kernel_rfl) rfl (by rw [j6, Z1]; decide) J2
  rw [qz7] at d73
  replace c900 := d73
  have T73 : Sm (fun x => x = b) h h73 := T71.tr t73
  have N73 := T73.nx
  refine Q3 _ rfl rfl rfl kr kr (e73) ?_
  refine q5 ⟨rfl, ?_⟩
  refine D_l (l := []) kr kr z4 (z5 (z1 1 kr (q5 (j7 ?_))))
  refine rr ?_
  refine z0 (v := nv 0) (.inl rfl) kr ?_
  exact ⟨rfl, c900, T73⟩
 ·
  refine u4 kr (D_e (e := 36) (l := [0,1,2,3,4,5,6,7,8,9,10,11,12,13,14,15,16,17,18,19,20,21,22,23,24,25,26,27,28,29,30,31,32,33,34,35]) (s' := [0,1,2,3,4,5,6,7,8,9,10,11,12,13,14,15,16,17,18,19,20,21,22,23,24,25,26,27,28]) kr kr rfl kr z4 (z2 1 kr (q9 _ rfl rfl kr kr kr (Cl.allN (n := 36) c67 (u5 _) kr) (z2 4 kr (q9 _ rfl rfl kr kr kr (c900.ld (o := 37) kr U3) (z2 2 kr (q9 _ rfl rfl kr kr kr (c66.ld (o := 36) kr (Q6 (k := 0))) (z2 5 kr (q9 _ rfl rfl kr kr kr (c900.ld (o := 38) kr U2) (z2 8 kr (q9 _ rfl rfl kr kr kr (c900.ld (o := 39) kr U6) ?_)))))))))))
  refine z2 2 kr (q9 _ rfl rfl kr kr kr (c66.ld (o := 38) kr (Q6 (k := 2))) (z2 5 kr (q9 _ rfl rfl kr kr kr (c900.ld (o := 40) kr J9) (z2 1 kr (q9 _ rfl rfl kr kr kr (c66.ld (o := 39) kr (Q6 (k := 3))) (z5 (V9 (nv ((max ze q.ze : Nat) : Int)) _ rfl rfl kr (vs := [nv (ze : Int), nv (q.ze : Int)]) kr (qx9.trans (by rw [zy4])) ?_)))))))
  refine q5 ⟨rfl, ?_⟩
  refine D_e (e := 40) (l := [37,38,39]) (s' := []) kr kr rfl kr (z3 rfl rfl (u6 _ rfl rfl rfl kr (Cl.allN (n := 36) c67 (u5 _) kr) kr (z3 rfl rfl (z3 rfl rfl (z3 rfl rfl (z3 rfl rfl (u6 _ rfl rfl rfl kr (c900.ld (o := 37) kr U3) kr (z3 rfl rfl (z3 rfl rfl (u6 _ rfl rfl rfl kr (c66.ld (o := 36) kr (Q6 (k := 0))) kr (z3 rfl rfl (z3 rfl rfl (z3 rfl rfl (z3 rfl rfl (z3 rfl rfl (u6 _ rfl rfl rfl kr (c900.ld (o := 38) kr U2) kr (z3 rfl rfl (z3 rfl rfl (qj5 rfl kr (z3 rfl rfl (z3 rfl rfl (z3 rfl rfl (z3 rfl rfl (z3 rfl rfl (u6 _ rfl rfl rfl kr (c900.ld (o := 39) kr U6) kr (z3 rfl rfl (z3 rfl rfl (u6 _ rfl rfl rfl kr (c66.ld (o := 38) kr (Q6 (k := 2))) kr (z3 rfl rfl z4))))))))))))))))))))))))))))) (U8 (.agg ⟨(Sa.add ⟨s0, false, true, false, ze⟩ q).cells⟩) rfl kr rfl kr (F6 (o := _) rfl kr (F8 (w := word ((s0 + q.s) % MM)))) (z2 2 kr (z5 ?_)))
  obtain ⟨h74, e74, d74, t74, n74⟩ := Cl.storeAt (P := Tryz.prog) (T := 81) (o := 1) (v := .agg ⟨(Sa.add ⟨s0, false, true, false, ze⟩ q).cells⟩) (vs := (Sa.add ⟨s0, false, true, false, ze⟩ q).cells) c900 (by rw [j6]; kernel_rfl) rfl (by rw [j6, Z1]; decide) J2
  rw [qz7] at d74
  replace c900 := d74
  have T74 : Sm (fun x => x = b) h h74 := T71.tr t74
  have N74 := T74.nx
  refine Q3 _ rfl rfl rfl kr kr (e74) ?_
  refine q5 ⟨rfl, ?_⟩
  refine D_l (l := []) kr kr z4 (z5 (z1 1 kr (q5 (j7 ?_))))
  refine rr ?_
  refine z0 (v := nv 0) (.inl rfl) kr ?_
  exact ⟨rfl, c900, T74⟩
 ·
  refine u4 kr (D_e (e := 36) (l := [0,1,2,3,4,5,6,7,8,9,10,11,12,13,14,15,16,17,18,19,20,21,22,23,24,25,26,27,28,29,30,31,32,33,34,35]) (s' := [0,1,2,3,4,5,6,7,8,9,10,11,12,13,14,15,16,17,18,19,20,21,22,23,24,25,26,27,28]) kr kr rfl kr z4 (z2 1 kr (q9 _ rfl rfl kr kr kr (Cl.allN (n := 36) c67 (u5 _) kr) (z2 4 kr (q9 _ rfl rfl kr kr kr (c900.ld (o := 37) kr U3) (z2 2 kr (q9 _ rfl rfl kr kr kr (c66.ld (o := 36) kr (Q6 (k := 0))) (z2 5 kr (q9 _ rfl rfl kr kr kr (c900.ld (o := 38) kr U2) (z2 8 kr (q9 _ rfl rfl kr kr kr (c900.ld (o := 39) kr U6) ?_)))))))))))
  refine z2 8 kr (q9 _ rfl rfl kr kr kr (c900.ld (o := 40) kr J9) (z2 1 kr (q9 _ rfl rfl kr kr kr (c66.ld (o := 39) kr (Q6 (k := 3))) (z5 (V9 (nv ((max ze q.ze : Nat) : Int)) _ rfl rfl kr (vs := [nv (ze : Int), nv (q.ze : Int)]) kr (qx9.trans (by rw [zy4])) ?_)))))
  refine q5 ⟨rfl, ?_⟩
  refine D_e (e := 40) (l := [37,38,39]) (s' := []) kr kr rfl kr (z3 rfl rfl (u6 _ rfl rfl rfl kr (Cl.allN (n := 36) c67 (u5 _) kr) kr (z3 rfl rfl (z3 rfl rfl (z3 rfl rfl (z3 rfl rfl (u6 _ rfl rfl rfl kr (c900.ld (o := 37) kr U3) kr (z3 rfl rfl (z3 rfl rfl (u6 _ rfl rfl rfl kr (c66.ld (o := 36) kr (Q6 (k := 0))) kr (z3 rfl rfl (z3 rfl rfl (z3 rfl rfl (z3 rfl rfl (z3 rfl rfl (u6 _ rfl rfl rfl kr (c900.ld (o := 38) kr U2) kr (z3 rfl rfl (z3 rfl rfl (qj5 rfl kr (z3 rfl rfl (z3 rfl rfl (z3 rfl rfl (z3 rfl rfl (z3 rfl rfl (u6 _ rfl rfl rfl kr (c900.ld (o := 39) kr U6) kr (z3 rfl rfl (z3 rfl rfl (qj5 rfl kr (z3 rfl rfl z4))))))))))))))))))))))))))))) (U8 (.agg ⟨(Sa.add ⟨s0, false, true, true, ze⟩ q).cells⟩) rfl kr rfl kr (F6 (o := _) rfl kr (F8 (w := word ((s0 + q.s) % MM)))) (z2 2 kr (z5 ?_)))
  obtain ⟨h75, e75, d75, t75, n75⟩ := Cl.storeAt (P := Tryz.prog) (T := 81) (o := 1) (v := .agg ⟨(Sa.add ⟨s0, false, true, true, ze⟩ q).cells⟩) (vs := (Sa.add ⟨s0, false, true, true, ze⟩ q).cells) c900 (by rw [j6]; kernel_rfl) rfl (by rw [j6, Z1]; decide) J2
  rw [qz7] at d75
  replace c900 := d75
  have T75 : Sm (fun x => x = b) h h75 := T71.tr t75
  have N75 := T75.nx
  refine Q3 _ rfl rfl rfl kr kr (e75) ?_
  refine q5 ⟨rfl, ?_⟩
  refine D_l (l := []) kr kr z4 (z5 (z1 1 kr (q5 (j7 ?_))))
  refine rr ?_
  refine z0 (v := nv 0) (.inl rfl) kr ?_
  exact ⟨rfl, c900, T75⟩
 ·
  refine u4 kr (D_e (e := 36) (l := [0,1,2,3,4,5,6,7,8,9,10,11,12,13,14,15,16,17,18,19,20,21,22,23,24,25,26,27,28,29,30,31,32,33,34,35]) (s' := [0,1,2,3,4,5,6,7,8,9,10,11,12,13,14,15,16,17,18,19,20,21,22,23,24,25,26,27,28]) kr kr rfl kr z4 (z2 1 kr (q9 _ rfl rfl kr kr kr (Cl.allN (n := 36) c67 (u5 _) kr) (z2 4 kr (q9 _ rfl rfl kr kr kr (c900.ld (o := 37) kr U3) (z2 8 kr (q9 _ rfl rfl kr kr kr (c900.ld (o := 38) kr U2) (z2 2 kr (q9 _ rfl rfl kr kr kr (c66.ld (o := 37) kr (Q6 (k := 1))) (z2 5 kr (q9 _ rfl rfl kr kr kr (c900.ld (o := 39) kr U6) ?_)))))))))))
  refine z2 2 kr (q9 _ rfl rfl kr kr kr (c66.ld (o := 38) kr (Q6 (k := 2))) (z2 5 kr (q9 _ rfl rfl kr kr kr (c900.ld (o := 40) kr J9) (z2 1 kr (q9 _ rfl rfl kr kr kr (c66.ld (o := 39) kr (Q6 (k := 3))) (z5 (V9 (nv ((max ze q.ze : Nat) : Int)) _ rfl rfl kr (vs := [nv (ze : Int), nv (q.ze : Int)]) kr (qx9.trans (by rw [zy4])) ?_)))))))
  refine q5 ⟨rfl, ?_⟩
  refine D_e (e := 40) (l := [37,38,39]) (s' := []) kr kr rfl kr (z3 rfl rfl (u6 _ rfl rfl rfl kr (Cl.allN (n := 36) c67 (u5 _) kr) kr (z3 rfl rfl (z3 rfl rfl (z3 rfl rfl (z3 rfl rfl (u6 _ rfl rfl rfl kr (c900.ld (o := 37) kr U3) kr (z3 rfl rfl (z3 rfl rfl (qj5 rfl kr (z3 rfl rfl (z3 rfl rfl (z3 rfl rfl (z3 rfl rfl (z3 rfl rfl (u6 _ rfl rfl rfl kr (c900.ld (o := 38) kr U2) kr (z3 rfl rfl (z3 rfl rfl (u6 _ rfl rfl rfl kr (c66.ld (o := 37) kr (Q6 (k := 1))) kr (z3 rfl rfl (z3 rfl rfl (z3 rfl rfl (z3 rfl rfl (z3 rfl rfl (u6 _ rfl rfl rfl kr (c900.ld (o := 39) kr U6) kr (z3 rfl rfl (z3 rfl rfl (u6 _ rfl rfl rfl kr (c66.ld (o := 38) kr (Q6 (k := 2))) kr (z3 rfl rfl z4))))))))))))))))))))))))))))) (U8 (.agg ⟨(Sa.add ⟨s0, true, false, false, ze⟩ q).cells⟩) rfl kr rfl kr (F6 (o := _) rfl kr (F8 (w := word ((s0 + q.s) % MM)))) (z2 2 kr (z5 ?_)))
  obtain ⟨h76, e76, d76, t76, n76⟩ := Cl.storeAt (P := Tryz.prog) (T := 81) (o := 1) (v := .agg ⟨(Sa.add ⟨s0, true, false, false, ze⟩ q).cells⟩) (vs := (Sa.add ⟨s0, true, false, false, ze⟩ q).cells) c900 (by rw [j6]; kernel_rfl) rfl (by rw [j6, Z1]; decide) J2
  rw [qz7] at d76
  replace c900 := d76
  have T76 : Sm (fun x => x = b) h h76 := T71.tr t76
  have N76 := T76.nx
  refine Q3 _ rfl rfl rfl kr kr (e76) ?_
  refine q5 ⟨rfl, ?_⟩
  refine D_l (l := []) kr kr z4 (z5 (z1 1 kr (q5 (j7 ?_))))
  refine rr ?_
  refine z0 (v := nv 0) (.inl rfl) kr ?_
  exact ⟨rfl, c900, T76⟩
 ·
  refine u4 kr (D_e (e := 36) (l := [0,1,2,3,4,5,6,7,8,9,10,11,12,13,14,15,16,17,18,19,20,21,22,23,24,25,26,27,28,29,30,31,32,33,34,35]) (s' := [0,1,2,3,4,5,6,7,8,9,10,11,12,13,14,15,16,17,18,19,20,21,22,23,24,25,26,27,28]) kr kr rfl kr z4 (z2 1 kr (q9 _ rfl rfl kr kr kr (Cl.allN (n := 36) c67 (u5 _) kr) (z2 4 kr (q9 _ rfl rfl kr kr kr (c900.ld (o := 37) kr U3) (z2 8 kr (q9 _ rfl rfl kr kr kr (c900.ld (o := 38) kr U2) (z2 2 kr (q9 _ rfl rfl kr kr kr (c66.ld (o := 37) kr (Q6 (k := 1))) (z2 5 kr (q9 _ rfl rfl kr kr kr (c900.ld (o := 39) kr U6) ?_)))))))))))
  refine z2 8 kr (q9 _ rfl rfl kr kr kr (c900.ld (o := 40) kr J9) (z2 1 kr (q9 _ rfl rfl kr kr kr (c66.ld (o := 39) kr (Q6 (k := 3))) (z5 (V9 (nv ((max ze q.ze : Nat) : Int)) _ rfl rfl kr (vs := [nv (ze : Int), nv (q.ze : Int)]) kr (qx9.trans (by rw [zy4])) ?_)))))
  refine q5 ⟨rfl, ?_⟩
  refine D_e (e := 40) (l := [37,38,39]) (s' := []) kr kr rfl kr (z3 rfl rfl (u6 _ rfl rfl rfl kr (Cl.allN (n := 36) c67 (u5 _) kr) kr (z3 rfl rfl (z3 rfl rfl (z3 rfl rfl (z3 rfl rfl (u6 _ rfl rfl rfl kr (c900.ld (o := 37) kr U3) kr (z3 rfl rfl (z3 rfl rfl (qj5 rfl kr (z3 rfl rfl (z3 rfl rfl (z3 rfl rfl (z3 rfl rfl (z3 rfl rfl (u6 _ rfl rfl rfl kr (c900.ld (o := 38) kr U2) kr (z3 rfl rfl (z3 rfl rfl (u6 _ rfl rfl rfl kr (c66.ld (o := 37) kr (Q6 (k := 1))) kr (z3 rfl rfl (z3 rfl rfl (z3 rfl rfl (z3 rfl rfl (z3 rfl rfl (u6 _ rfl rfl rfl kr (c900.ld (o := 39) kr U6) kr (z3 rfl rfl (z3 rfl rfl (qj5 rfl kr (z3 rfl rfl z4))))))))))))))))))))))))))))) (U8 (.agg ⟨(Sa.add ⟨s0, true, false, true, ze⟩ q).cells⟩) rfl kr rfl kr (F6 (o := _) rfl kr (F8 (w := word ((s0 + q.s) % MM)))) (z2 2 kr (z5 ?_)))
  obtain ⟨h77, e77, d77, t77, n77⟩ := Cl.storeAt (P := Tryz.prog) (T := 81) (o := 1) (v := .agg ⟨(Sa.add ⟨s0, true, false, true, ze⟩ q).cells⟩) (vs := (Sa.add ⟨s0, true, false, true, ze⟩ q).cells) c900 (by rw [j6]; kernel_rfl) rfl (by rw [j6, Z1]; decide) J2
  rw [qz7] at d77
  replace c900 := d77
  have T77 : Sm (fun x => x = b) h h77 := T71.tr t77
  have N77 := T77.nx
  refine Q3 _ rfl rfl rfl kr kr (e77) ?_
  refine q5 ⟨rfl, ?_⟩
  refine D_l (l := []) kr kr z4 (z5 (z1 1 kr (q5 (j7 ?_))))
  refine rr ?_
  refine z0 (v := nv 0) (.inl rfl) kr ?_
  exact ⟨rfl, c900, T77⟩
 ·
  refine u4 kr (D_e (e := 36) (l := [0,1,2,3,4,5,6,7,8,9,10,11,12,13,14,15,16,17,18,19,20,21,22,23,24,25,26,27,28,29,30,31,32,33,34,35]) (s' := [0,1,2,3,4,5,6,7,8,9,10,11,12,13,14,15,16,17,18,19,20,21,22,23,24,25,26,27,28]) kr kr rfl kr z4 (z2 1 kr (q9 _ rfl rfl kr kr kr (Cl.allN (n := 36) c67 (u5 _) kr) (z2 4 kr (q9 _ rfl rfl kr kr kr (c900.ld (o := 37) kr U3) (z2 8 kr (q9 _ rfl rfl kr kr kr (c900.ld (o := 38) kr U2) (z2 8 kr (q9 _ rfl rfl kr kr kr (c900.ld (o := 39) kr U6) (z2 2 kr (q9 _ rfl rfl kr kr kr (c66.ld (o := 38) kr (Q6 (k := 2))) ?_)))))))))))
  refine z2 5 kr (q9 _ rfl rfl kr kr kr (c900.ld (o := 40) kr J9) (z2 1 kr (q9 _ rfl rfl kr kr kr (c66.ld (o := 39) kr (Q6 (k := 3))) (z5 (V9 (nv ((max ze q.ze : Nat) : Int)) _ rfl rfl kr (vs := [nv (ze : Int), nv (q.ze : Int)]) kr (qx9.trans (by rw [zy4])) ?_)))))
  refine q5 ⟨rfl, ?_⟩
  refine D_e (e := 40) (l := [37,38,39]) (s' := []) kr kr rfl kr (z3 rfl rfl (u6 _ rfl rfl rfl kr (Cl.allN (n := 36) c67 (u5 _) kr) kr (z3 rfl rfl (z3 rfl rfl (z3 rfl rfl (z3 rfl rfl (u6 _ rfl rfl rfl kr (c900.ld (o := 37) kr U3) kr (z3 rfl rfl (z3 rfl rfl (qj5 rfl kr (z3 rfl rfl (z3 rfl rfl (z3 rfl rfl (z3 rfl rfl (z3 rfl rfl (u6 _ rfl rfl rfl kr (c900.ld (o := 38) kr U2) kr (z3 rfl rfl (z3 rfl rfl (qj5 rfl kr (z3 rfl rfl (z3 rfl rfl (z3 rfl rfl (z3 rfl rfl (z3 rfl rfl (u6 _ rfl rfl rfl kr (c900.ld (o := 39) kr U6) kr (z3 rfl rfl (z3 rfl rfl (u6 _ rfl rfl rfl kr (c66.ld (o := 38) kr (Q6 (k := 2))) kr (z3 rfl rfl z4))))))))))))))))))))))))))))) (U8 (.agg ⟨(Sa.add ⟨s0, true, true, false, ze⟩ q).cells⟩) rfl kr rfl kr (F6 (o := _) rfl kr (F8 (w := word ((s0 + q.s) % MM)))) (z2 2 kr (z5 ?_)))
  obtain ⟨h78, e78, d78, t78, n78⟩ := Cl.storeAt (P := Tryz.prog) (T := 81) (o := 1) (v := .agg ⟨(Sa.add ⟨s0, true, true, false, ze⟩ q).cells⟩) (vs := (Sa.add ⟨s0, true, true, false, ze⟩ q).cells) c900 (by rw [j6]; kernel_rfl) rfl (by rw [j6, Z1]; decide) J2
  rw [qz7] at d78
  replace c900 := d78
  have T78 : Sm (fun x => x = b) h h78 := T71.tr t78
  have N78 := T78.nx
  refine Q3 _ rfl rfl rfl kr kr (e78) ?_
  refine q5 ⟨rfl, ?_⟩
  refine D_l (l := []) kr kr z4 (z5 (z1 1 kr (q5 (j7 ?_))))
  refine rr ?_
  refine z0 (v := nv 0) (.inl rfl) kr ?_
  exact ⟨rfl, c900, T78⟩
 ·
  refine u4 kr (D_e (e := 36) (l := [0,1,2,3,4,5,6,7,8,9,10,11,12,13,14,15,16,17,18,19,20,21,22,23,24,25,26,27,28,29,30,31,32,33,34,35]) (s' := [0,1,2,3,4,5,6,7,8,9,10,11,12,13,14,15,16,17,18,19,20,21,22,23,24,25,26,27,28]) kr kr rfl kr z4 (z2 1 kr (q9 _ rfl rfl kr kr kr (Cl.allN (n := 36) c67 (u5 _) kr) (z2 4 kr (q9 _ rfl rfl kr kr kr (c900.ld (o := 37) kr U3) (z2 8 kr (q9 _ rfl rfl kr kr kr (c900.ld (o := 38) kr U2) (z2 8 kr (q9 _ rfl rfl kr kr kr (c900.ld (o := 39) kr U6) (z2 8 kr (q9 _ rfl rfl kr kr kr (c900.ld (o := 40) kr J9) ?_)))))))))))
  refine z2 1 kr (q9 _ rfl rfl kr kr kr (c66.ld (o := 39) kr (Q6 (k := 3))) (z5 (V9 (nv ((max ze q.ze : Nat) : Int)) _ rfl rfl kr (vs := [nv (ze : Int), nv (q.ze : Int)]) kr (qx9.trans (by rw [zy4])) ?_)))
  refine q5 ⟨rfl, ?_⟩
  refine D_e (e := 40) (l := [37,38,39]) (s' := []) kr kr rfl kr (z3 rfl rfl (u6 _ rfl rfl rfl kr (Cl.allN (n := 36) c67 (u5 _) kr) kr (z3 rfl rfl (z3 rfl rfl (z3 rfl rfl (z3 rfl rfl (u6 _ rfl rfl rfl kr (c900.ld (o := 37) kr U3) kr (z3 rfl rfl (z3 rfl rfl (qj5 rfl kr (z3 rfl rfl (z3 rfl rfl (z3 rfl rfl (z3 rfl rfl (z3 rfl rfl (u6 _ rfl rfl rfl kr (c900.ld (o := 38) kr U2) kr (z3 rfl rfl (z3 rfl rfl (qj5 rfl kr (z3 rfl rfl (z3 rfl rfl (z3 rfl rfl (z3 rfl rfl (z3 rfl rfl (u6 _ rfl rfl rfl kr (c900.ld (o := 39) kr U6) kr (z3 rfl rfl (z3 rfl rfl (qj5 rfl kr (z3 rfl rfl z4))))))))))))))))))))))))))))) (U8 (.agg ⟨(Sa.add ⟨s0, true, true, true, ze⟩ q).cells⟩) rfl kr rfl kr (F6 (o := _) rfl kr (F8 (w := word ((s0 + q.s) % MM)))) (z2 2 kr (z5 ?_)))
  obtain ⟨h79, e79, d79, t79, n79⟩ := Cl.storeAt (P := Tryz.prog) (T := 81) (o := 1) (v := .agg ⟨(Sa.add ⟨s0, true, true, true, ze⟩ q).cells⟩) (vs := (Sa.add ⟨s0, true, true, true, ze⟩ q).cells) c900 (by rw [j6]; kernel_rfl) rfl (by rw [j6, Z1]; decide) J2
  rw [qz7] at d79
  replace c900 := d79
  have T79 : Sm (fun x => x = b) h h79 := T71.tr t79
  have N79 := T79.nx
  refine Q3 _ rfl rfl rfl kr kr (e79) ?_
  refine q5 ⟨rfl, ?_⟩
  refine D_l (l := []) kr kr z4 (z5 (z1 1 kr (q5 (j7 ?_))))
  refine rr ?_
  refine z0 (v := nv 0) (.inl rfl) kr ?_
  exact ⟨rfl, c900, T79⟩
end
end Go.Proofs.YtjealfplbigphaaGreat
namespace Go.Proofs.YtjealfplbigphaaGreat
noncomputable section
open Go Go.X Go.Arm Go.Mt Go.Nu
theorem xg6 {h : AH} {b x : Nat} {a : Sa} (c900 : Arm.Cl h b (accL a)) (hx : x < BB) (hl : lenN (absN ((a.s + (oneB x).s) % MM)) ≤ 2240) :
  Arm.Calls Tryz.prog 9 [ptr b, uv x] h (fun r => r.1 = nv 0 /\ Arm.Cl r.2 b (accL (a.add (oneB x))) /\ Sm (fun x => x = b) h r.2) := by
 have hlb := c900.lt
 refine Q5 (n := 12) (fn := Tryz.f9) kr rfl rfl (Nat.le_of_ble_eq_true rfl) trivial ⟨.inl (fun e => by cases e), rfl⟩ ?_
 have T0 : Sm (fun x => x = b) h h := .refl
 refine z1 1 kr (q5 (q7 (z1 1 kr (L_c rfl rfl kr (qy7 c900) ?_))))
 rintro v80 h80 ⟨e80, t80⟩
 try dsimp only at e80 t80
 subst e80
 replace c900 := c900.ext t80
 have T80 : Sm (fun x => x = b) h h80 := T0.ext t80
 have N80 := T80.nx
 have M80 := t80.nx
 refine L_g 1 kr (q5 (Q2 kr (z6 (z1 2 kr (L_c rfl rfl kr (one_ok hx) ?_)))))
 rintro v81 h81 ⟨e81, t81⟩
 try dsimp only at e81 t81
 subst e81
 replace c900 := c900.ext t81
 have T81 : Sm (fun x => x = b) h h81 := T80.ext t81
 have N81 := T81.nx
 have M81 := t81.nx
 refine L_c rfl rfl kr (yv4 (q := oneB x) c900 hl) ?_
 rintro v82 h82 ⟨e82, d82, t82⟩
 dsimp only at e82 d82 t82
 subst e82
 replace c900 := c900
 have T82 : Sm (fun x => x = b) h h82 := T81.trans t82 (fun x hx => .inl hx)
 have N82 := T82.nx
 refine L_g 1 kr (q5 (j7 ?_))
 refine rr ?_
 refine z0 (v := nv 0) (.inl rfl) kr ?_
 exact ⟨rfl, d82, T82⟩
theorem ju4 {h : AH} {b b2 : Nat} {a q : Sa} (c900 : Arm.Cl h b (accL a)) (c901 : Arm.Cl h b2 (accL q)) (hl : lenN (absN ((a.s + q.s) % MM)) ≤ 2240) :
  Arm.Calls Tryz.prog 16 [ptr b, ptr b2] h (fun r => r.1 = nv 0 /\ Arm.Cl r.2 b (accL (a.add (q))) /\ Sm (fun x => x = b) h r.2) := by
 have hlb := c900.lt
 refine Q5 (n := 19) (fn := Tryz.f16) kr rfl rfl (Nat.le_of_ble_eq_true rfl) trivial ⟨.inl (fun e => by cases e), rfl⟩ ?_
 have T0 : Sm (fun x => x = b) h h := .refl
 refine z1 1 kr (q5 (q7 (z1 1 kr (L_c rfl rfl kr (qy7 c900) ?_))))
 rintro v83 h83 ⟨e83, t83⟩
 try dsimp only at e83 t83
 subst e83
 replace c900 := c900.ext t83
 replace c901 := c901.ext t83
 have T83 : Sm (fun x => x = b) h h83 := T0.ext t83
 have N83 := T83.nx
 have M83 := t83.nx
 refine L_g 3 kr (u9 kr (L_c rfl rfl kr (qy7 c901) ?_))
 rintro v84 h84 ⟨e84, t84⟩
 try dsimp only at e84 t84
 subst e84
 replace c900 := c900.ext t84
 replace c901 := c901.ext t84
 have T84 : Sm (fun x => x = b) h h84 := T83.ext t84
 have N84 := T84.nx
 have M84 := t84.nx
 refine L_g 2 kr (q5 (Q2 kr (z6 (z1 4 kr (z9 _ rfl rfl kr ((Cl.ldS (o := 1) (k := 40) c901 kr (by rw [Z1]; decide)).trans (by rw [xj3])) (L_c rfl rfl kr (yv4 (q := q) c900 hl) ?_))))))
 rintro v85 h85 ⟨e85, d85, t85⟩
 dsimp only at e85 d85 t85
 subst e85
 replace c900 := c900
 replace c901 := c901
 have T85 : Sm (fun x => x = b) h h85 := T84.trans t85 (fun x hx => .inl hx)
 have N85 := T85.nx
 refine L_g 1 kr (q5 (j7 ?_))
 refine rr ?_
 refine z0 (v := nv 0) (.inl rfl) kr ?_
 exact ⟨rfl, d85, T85⟩
theorem Qq3 (x : Nat) : rndN x < BB := by
 have h : ∀ y, min inf y < BB := fun y => Nat.lt_of_le_of_lt (Nat.min_le_left _ _) (by decide)
 unfold rndN
 dsimp only
 split
 . decide
 . exact h _
theorem yx8 {h : AH} {b : Nat} {a : Sa} (c900 : Arm.Cl h b (accL a)) (hs : a.s < MM) : Arm.Calls Tryz.prog 17 [ptr b] h (fun r => r.1 = uv a.val /\ Sm Nix h r.2) := by
 obtain ⟨s0, na, pl, mi, ze⟩ := a
 have hs : s0 < MM := hs
 refine Q5 (n := 66) (fn := Tryz.f17) kr rfl rfl (Nat.le_of_ble_eq_true rfl) trivial ⟨.inl (fun e => by cases e), rfl⟩ ?_
 have T0 : Sm Nix h h := .refl
 refine z1 1 kr (q5 (q7 (z1 1 kr (L_c rfl rfl kr (qy7 (c900.ext T0)) ?_))))
 rintro v86 h86 ⟨e86, t86⟩
 try dsimp only at e86 t86
 subst e86
 have T86 := T0.ext t86
 have N86 := T86.nx
 have M86 := t86.nx
 refine L_g 1 kr (q5 (Q2 kr (z6 (q7 (u3 (q7 ?_))))))
 cases na <;> cases pl <;> cases mi
 ·
  refine Z3 4 kr (z9 _ rfl rfl kr ((c900.ext T86).ld (o := 37) kr U3) (L_g 5 kr (u9 kr (z9 _ rfl rfl kr ((c900.ext T86).ld (o := 38) kr U2) (L_g 9 kr (q5 (Q2 kr (q7 (q6 (L_g 4 kr ?_))))))))))
  refine z9 _ rfl rfl kr ((c900.ext T86).ld (o := 38) kr U2) (L_g 1 kr (q5 (Q2 kr (z1 4 kr (z9 _ rfl rfl kr ((c900.ext T86).ld (o := 39) kr U6) (L_g 1 kr (q5 (Q2 kr (q7 ?_)))))))))
  refine Z3 4 kr (z9 _ rfl rfl kr ((c900.ext T86).ld (o := 40) kr J9) (L_i ((ze : Int)) (1) (.bool (decide (ze = 1))) rfl rfl kr kr rfl (eqI ze 1) (L_g 1 kr (q5 ?_))))
  refine Q0 (decide (ze = 1)) kr (fun hb => ?_) (fun hb => ?_)
  ·
   have hz := hb
   refine z1 1 kr (q5 (j7 ?_))
   refine rr ?_
   refine z0 (v := uv sgn) (.inl rfl) kr ?_
   exact ⟨(congrArg uv (jv7.trans (uw5 hz))).symm, T86⟩
  ·
   have hz := hb
   refine z1 4 kr (z9 _ rfl rfl kr ((Cl.ldS (o := 1) (k := 36) (c900.ext T86) kr (by rw [Z1]; decide)).trans (by rw [E6])) (L_c rfl rfl kr (zk0 (X := s0) hs) ?_))
   rintro v87 h87 ⟨e87, t87⟩
   try dsimp only at e87 t87
   subst e87
   have T87 := T86.ext t87
   have N87 := T87.nx
   have M87 := t87.nx
   refine L_g 1 kr (q5 ?_)
   refine Q0 (neg? s0) kr (fun hb => ?_) (fun hb => ?_)
   ·
    refine z1 4 kr (z9 _ rfl rfl kr ((Cl.ldS (o := 1) (k := 36) (c900.ext T87) kr (by rw [Z1]; decide)).trans (by rw [E6])) (L_c rfl rfl kr (yq6 (X := s0) hs) ?_))
    rintro v88 h88 ⟨e88, t88⟩
    try dsimp only at e88 t88
    subst e88
    have T88 := T87.ext t88
    have N88 := T88.nx
    have M88 := t88.nx
    refine L_c rfl rfl kr (zu3 (X := absN s0)) ?_
    rintro v89 h89 ⟨e89, t89⟩
    try dsimp only at e89 t89
    subst e89
    have T89 := T88.ext t89
    have N89 := T89.nx
    have M89 := t89.nx
    refine L_p (uv (sgn ||| rndN (absN s0))) rfl (ev_bin (o := _) rfl kr kr (or_u (by decide) (Qq3 _))) (L_g 1 kr (q5 (j7 ?_)))
    refine rr ?_
    refine z0 (v := uv (sgn ||| rndN (absN s0))) (.inl rfl) kr ?_
    exact ⟨(congrArg uv (jv7.trans (jv9 hz hb))).symm, T89⟩
   ·
    refine z6 (z1 4 kr (z9 _ rfl rfl kr ((Cl.ldS (o := 1) (k := 36) (c900.ext T87) kr (by rw [Z1]; decide)).trans (by rw [E6])) (L_c rfl rfl kr (zu3 (X := s0)) ?_)))
    rintro v90 h90 ⟨e90, t90⟩
    try dsimp only at e90 t90
    subst e90
    have T90 := T87.ext t90
    have N90 := T90.nx
    have M90 := t90.nx
    refine L_g 1 kr (q5 (j7 ?_))
    refine rr ?_
    refine z0 (v := uv (rndN s0)) (.inl rfl) kr ?_
    exact ⟨(congrArg uv (jv7.trans (jv8 hz hb))).symm, T90⟩
 ·
  refine Z3 4 kr (z9 _ rfl rfl kr ((c900.ext T86).ld (o := 37) kr U3) (L_g 5 kr (u9 kr (z9 _ rfl rfl kr ((c900.ext T86).ld (o := 38) kr U2) (L_g 9 kr (q5 (Q2 kr (q7 (q6 (L_g 4 kr ?_))))))))))
  refine z9 _ rfl rfl kr ((c900.ext T86).ld (o := 38) kr U2) (L_g 1 kr (q5 (Q2 kr (z1 4 kr (z9 _ rfl rfl kr ((c900.ext T86).ld (o := 39) kr U6) (L_g 1 kr (q5 (U7 kr (q7 ?_)))))))))
  refine Z3 1 kr (q5 (j7 ?_))
  refine rr ?_
  refine z0 (v := uv 18442240474082181120) (.inl rfl) kr ?_
  exact ⟨rfl, T86⟩
 ·
  refine Z3 4 kr (z9 _ rfl rfl kr ((c900.ext T86).ld (o := 37) kr U3) (L_g 5 kr (u9 kr (z9 _ rfl rfl kr ((c900.ext T86).ld (o := 38) kr U2) (L_g 5 kr (u9 kr (z9 _ rfl rfl kr ((c900.ext T86).ld (o := 39) kr U6) (L_g 3 kr (q5 (Q2 kr ?_))))))))))
  refine z1 4 kr (z9 _ rfl rfl kr ((c900.ext T86).ld (o := 38) kr U2) (L_g 1 kr (q5 (U7 kr (z1 1 kr (q5 (j7 ?_)))))))
  refine rr ?_
  refine z0 (v := uv inf) (.inl rfl) kr ?_
  exact ⟨rfl, T86⟩
 ·
  refine Z3 4 kr (z9 _ rfl rfl kr ((c900.ext T86).ld (o := 37) kr U3) (L_g 5 kr (u9 kr (z9 _ rfl rfl kr ((c900.ext T86).ld (o := 38) kr U2) (L_g 5 kr (u9 kr (z9 _ rfl rfl kr ((c900.ext T86).ld (o := 39) kr U6) (L_g 3 kr (q5 (U7 kr ?_))))))))))
  refine z1 1 kr (q5 (j7 ?_))
  refine rr ?_
  refine z0 (v := uv 9221120237041090560) (.inl rfl) kr ?_
  exact ⟨rfl, T86⟩
 ·
  refine Z3 4 kr (z9 _ rfl rfl kr ((c900.ext T86).ld (o := 37) kr U3) (L_g 15 kr (q5 (U7 kr (z1 1 kr (q5 (j7 ?_)))))))
  refine rr ?_
  refine z0 (v := uv 9221120237041090560) (.inl rfl) kr ?_
  exact ⟨rfl, T86⟩
 ·
  refine Z3 4 kr (z9 _ rfl rfl kr ((c900.ext T86).ld (o := 37) kr U3) (L_g 15 kr (q5 (U7 kr (z1 1 kr (q5 (j7 ?_)))))))
  refine rr ?_
  refine z0 (v := uv 9221120237041090560) (.inl rfl) kr ?_
  exact ⟨rfl, T86⟩
 ·
  refine Z3 4 kr (z9 _ rfl rfl kr ((c900.ext T86).ld (o := 37) kr U3) (L_g 15 kr (q5 (U7 kr (z1 1 kr (q5 (j7 ?_)))))))
  refine rr ?_
  refine z0 (v := uv 9221120237041090560) (.inl rfl) kr ?_
  exact ⟨rfl, T86⟩
 ·
  refine Z3 4 kr (z9 _ rfl rfl kr ((c900.ext T86).ld (o := 37) kr U3) (L_g 15 kr (q5 (U7 kr (z1 1 kr (q5 (j7 ?_)))))))
  refine rr ?_
  refine z0 (v := uv 9221120237041090560) (.inl rfl) kr ?_
  exact ⟨rfl, T86⟩
end
end Go.Proofs.YtjealfplbigphaaGreat
namespace Go.Arm
noncomputable section
open Go Go.X
variable {P : Program} {h h' : AH} {S : Nat -> Prop} {T el : TypeId} {v : Value} {cs : List Value}
def Bs (el : TypeId) (h : AH) (v : Value) (cs : List Value) : Prop := cs ≠ [] /\ ∃ b, b < h.next /\ ((v = .slice (some ⟨b, 0, none⟩) cs.length cs.length /\ cs.length < u7 /\ Cl h b cs) ∨
 ∃ cc, v = .slice (some ⟨b, 0, none⟩) cs.length u7 /\ h.m.get b = some (.tcells el cc cs.length 1) /\ ∀ j, j < cs.length -> cc.get j = cs[j]?)
theorem Bs.sm (H : Bs el h v cs) (s : Sm S h h') (hb : ∀ b, vb v = some b -> ¬ S b) : Bs el h' v cs := by
 obtain ⟨h0, b, hl, ⟨rfl, ho, hc⟩ | ⟨cc, rfl, h1, h2⟩⟩ := H
 . exact ⟨h0, b, Nat.lt_of_lt_of_le hl s.nx, .inl ⟨rfl, ho, hc.sm s (hb b rfl)⟩⟩
 . exact ⟨h0, b, Nat.lt_of_lt_of_le hl s.nx, .inr ⟨cc, rfl, (s.get b hl (hb b rfl)).trans h1, h2⟩⟩
theorem Bs.rb (H : Bs el h v cs) : Rb h v cs := by
 obtain ⟨h0, b, hl, ⟨rfl, ho, hc⟩ | ⟨cc, rfl, h1, h2⟩⟩ := H
 . have hn : cs.length ≠ 0 := fun e => h0 (List.length_eq_zero_iff.1 e)
   refine .inr ⟨b, 0, cs.length, h0, hn, rfl, hl, fun j hj => ?_⟩
   rw [Nat.zero_add]
   have := hc.cell (o := j) (v := cs[j]) (List.getElem?_eq_getElem hj)
   rw [this, List.getElem?_eq_getElem hj]
 . refine .inr ⟨b, 0, u7, h0, qq2, rfl, hl, fun j hj => ?_⟩
   unfold AH.cell
   simp only [h1]
   rw [if_pos (by omega), Nat.zero_add]
   exact h2 j hj
theorem Bs.app {sT xT : TypeId} {by_ : Nat} {z u x : Value} (hT : P.underlying sT = some (.slice el)) (hx : newsK P xT = .list) (hs : szOf P el = some 1) (hb : byOf P el = some by_) (hz : zeroOf P el = some z) (hzl : (cellsL z).length = 1) (hu8 : isU8 P el = some el)
   (B : Bs el h v cs) (hu : Rb h u [x]) (h1 : x.oneCell' = true) (hlim : (cs.length + 1) * (by_ + 1) < 1099511627776) :
   ∃ h', aAppend P sT xT v u h = some (.slice (some ⟨h.next, 0, none⟩) (cs.length + 1) u7, h') /\ Bs el h' (.slice (some ⟨h.next, 0, none⟩) (cs.length + 1) u7) (cs ++ [x]) /\ Sm (fun b => vb v = some b) h h' /\ h'.next = h.next + 1 := by
 have hf := hu.first
 have hr := B.rb.first
 obtain ⟨ua, uc, rfl⟩ := hu.form
 obtain ⟨h0, b, hl, B⟩ := B
 have hn : cs.length ≠ 0 := fun e => h0 (List.length_eq_zero_iff.1 e)
 have hne : cs ++ [x] ≠ [] := by simp
 have ha : ∀ (m : X.T (AObj)), (∀ k, k < h.next -> ¬ k = b -> m.get k = h.m.get k) -> ∃ h' : AH, (⟨m, h.next⟩ : AH).newo (cs ++ [x]) 1 (some el) = some (h.next, h') /\ Bs el h' (.slice (some ⟨h.next, 0, none⟩) (cs.length + 1) u7) (cs ++ [x]) /\ Sm (fun k => k = b) h h' /\ h'.next = h.next + 1 := by
   intro m hm
   refine ⟨⟨m.set h.next (some (.tcells el (X.T.fill (cs ++ [x]) 0 .e) (cs ++ [x]).length 1)), h.next + 1⟩, rfl, ⟨hne, h.next, Nat.lt_succ_self _, .inr ⟨X.T.fill (cs ++ [x]) 0 .e, by rw [List.length_append]; rfl, ?_, fun j hj => ?_⟩⟩, ⟨Nat.le_succ _, fun k hk hkb => ?_⟩, rfl⟩
   . show (m.set h.next _).get h.next = _
     rw [X.T.get_set, if_pos rfl]
   . rw [X.T.get_fill, if_pos (by omega)]; simp
   . show (m.set h.next _).get k = _
     rw [X.T.get_set, if_neg (by omega)]
     exact hm k hk hkb
 have key : ∀ (l c : Nat), l = cs.length -> v = .slice (some ⟨b, 0, none⟩) l c -> aAppend P sT xT v (.slice ua [x].length uc) h = aAppendTo 1 v 1 [x] h (some el) := by
   intro l c hlc hv
   subst hv
   subst hlc
   unfold aAppend
   simp only [hT, hs, hb, hz]
   unfold aNews
   have hlen : X.lenV (.slice ua [x].length uc) = some 1 := rfl
   have hf : aFirst 1 1 (.slice ua [x].length uc) h = some [x] := hf
   simp only [hx, hlen, hf]
   have hl0 : X.lenV (.slice (some ⟨b, 0, none⟩) cs.length c) = some cs.length := rfl
   simp only [hl0]
   rw [if_pos ⟨hzl, rfl, by rw [List.all_eq_true]; exact fun y hy => by cases List.mem_singleton.1 hy; exact h1, hlim⟩]
   rw [hu8]
 rcases B with ⟨rfl, ho, hc⟩ | ⟨cc, rfl, g1, g2⟩
 . obtain ⟨h', e1, B', s', n'⟩ := ha h.m (fun k _ _ => rfl)
   refine ⟨h', ?_, B', s'.mono fun k hk => by subst hk; rfl, n'⟩
   rw [key _ _ rfl rfl]
   unfold aFirst at hr
   dsimp only at hr
   rw [if_neg hn, if_neg (by omega)] at hr
   unfold aAppendTo
   dsimp only
   rw [if_neg (by omega), if_neg (by omega), if_neg hn, if_neg hn, hr]
   dsimp only
   rw [e1]
 . obtain ⟨h', e1, B', s', n'⟩ := ha (h.m.set b none) (fun k _ hk => by rw [X.T.get_set, if_neg hk])
   refine ⟨h', ?_, B', s'.mono fun k hk => by subst hk; rfl, n'⟩
   rw [key _ _ rfl rfl]
   unfold aFirst at hr
   dsimp only at hr
   rw [if_neg hn, if_neg (fun e => e.elim qq2 hn)] at hr
   have hop : X.opOf h b = some (cs.length, 1) := by unfold X.opOf; simp only [g1]
   have htg : tagOf (some el) h ⟨b, 0, none⟩ = some el := by
     unfold tagOf tyAt
     simp only [g1]
     rw [Nat.beq_refl]; rfl
   unfold aAppendTo
   dsimp only
   rw [if_pos rfl, hop]
   dsimp only
   rw [if_pos rfl, if_neg (by omega), hr]
   dsimp only
   rw [htg, e1]
end
end Go.Arm
namespace Go.Nu
def encR (x n i : Nat) : List UInt8 := ((List.range n).drop i).reverse.map fun k => UInt8.ofNat (byt x k)
theorem encR_n (x n : Nat) : encR x n n = [] := by
 unfold encR
 rw [List.drop_of_length_le (by rw [List.length_range]; exact Nat.le_refl _)]; rfl
theorem encR_s {x n i : Nat} (h : i < n) : encR x n (i + 1) ++ [UInt8.ofNat (byt x i)] = encR x n i := by
 unfold encR
 have e : (List.range n).drop i = i :: (List.range n).drop (i + 1) := by
  rw [List.drop_eq_getElem_cons (by rw [List.length_range]; exact h)]
  rw [List.getElem_range]
 rw [e, List.reverse_cons, List.map_append]
 rfl
theorem qu4 (b : Bool) (n : Nat) : b2n b n ≤ n := by cases b <;> simp [b2n]
theorem fl_lt {a : Sa} (h : a.ze ≤ 2) : a.fl < 256 := by
 unfold Sa.fl
 have h1 := qu4 a.na 1
 have h2 := qu4 a.pl 2
 have h3 := qu4 a.mi 4
 omega
end Go.Nu
namespace Go.Arm
noncomputable section
open Go Go.X Go.Nu
theorem zg8 {x : Nat} (h : x < 256) : bv (UInt8.ofNat x) = .int .u8 (x : Int) := by
 have e : (UInt8.ofNat x).toNat = x := UInt8.toNat_ofNat_of_lt (by show _ < 256; exact h)
 show Value.int .u8 ((UInt8.ofNat x).toNat : Int) = _
 rw [e]
section
variable {P : Program} {h : AH} {T : TypeId} {xo yo : Operand} {a b : Nat}
theorem wrapB {x : Nat} (hx : x < 256) : IntKind.u8.wrap (x : Int) = (x : Int) := by
 have : ∀ k : Fin 256, IntKind.u8.wrap (k.val : Int) = (k.val : Int) := by decide +kernel
 exact this ⟨x, hx⟩
theorem E9 (hx : a + b < 256) : aBin P .add T xo yo (.int .u8 (a : Int)) (.int .u8 (b : Int)) h = some (.int .u8 ((a + b : Nat) : Int)) := by
 have e : aBin P .add T xo yo (.int .u8 (a : Int)) (.int .u8 (b : Int)) h = some (.int .u8 (IntKind.u8.wrap ((a : Int) + (b : Int)))) := rfl
 rw [e, <- Int.natCast_add, wrapB hx]
theorem qk9 (hx : a * b < 256) : aBin P .mul T xo yo (.int .u8 (a : Int)) (.int .u8 (b : Int)) h = some (.int .u8 ((a * b : Nat) : Int)) := by
 have e : aBin P .mul T xo yo (.int .u8 (a : Int)) (.int .u8 (b : Int)) h = some (.int .u8 (IntKind.u8.wrap ((a : Int) * (b : Int)))) := rfl
 rw [e, <- Int.natCast_mul, wrapB hx]
theorem wrapBm (x : Nat) : IntKind.u8.wrap (x : Int) = ((x % 256 : Nat) : Int) := by
 unfold IntKind.wrap
 dsimp only
 rw [if_neg (by simp [IntKind.signed])]
 rfl
theorem uu9 {U : TypeId} {s u v : Value} {h' : AH} (e : aAppend P T U s u h = some (v, h')) : aBuiltin P .append [T, U] [s, u] h = some [(.val v, h')] := by
 show ovh (aAppend P T U s u h) = _
 rw [e]; rfl
end
end
end Go.Arm
namespace Go.Proofs.YtjealfplbigphaaGreat
noncomputable section
open Go Go.X Go.Arm Go.Mt Go.Nu
theorem qx5 {h : AH} {x : Nat} (hx : x < 256) : aConv Tryz.prog 3 5 (nv (x : Int)) h = some (.int .u8 (x : Int)) := by
 have e : aConv Tryz.prog 3 5 (nv (x : Int)) h = some (.int .u8 (IntKind.u8.wrap (x : Int))) := by kernel_rfl
 rw [e, wrapB hx]
theorem uu0 {h : AH} {x : Nat} : aConv Tryz.prog 24 5 (uv x) h = some (.int .u8 ((x % 256 : Nat) : Int)) := by
 have e : aConv Tryz.prog 24 5 (uv x) h = some (.int .u8 (IntKind.u8.wrap (x : Int))) := by kernel_rfl
 rw [e, wrapBm]
theorem Qj1 {x n k f g : Nat} (hk : k + 1 ≤ n) : (UInt8.ofNat f :: UInt8.ofNat g :: encR x n (k + 1)).map bv ++ [.int .u8 (byt x k : Int)] = (UInt8.ofNat f :: UInt8.ofNat g :: encR x n k).map bv := by
 rw [<- encR_s (x := x) (n := n) (i := k) hk, <- zg8 (zv9 x k)]
 simp only [List.map_cons, List.map_append, List.cons_append, List.map_nil]
theorem qy4 {h : AH} {b : Nat} {a : Sa} (c900 : Arm.Cl h b (accL a)) (hs : a.s < MM) (hz : a.ze ≤ 2) (hl : lenN (absN a.s) ≤ 2240) :
  Arm.Calls Tryz.prog 10 [ptr b] h (fun r => ∃ s, r.1 = .tuple ⟨[s, nv 0]⟩ /\ Bs 5 r.2 s (a.enc.map bv) /\ Sm Nix h r.2 /\ ∀ q, vb s = some q -> h.next ≤ q) := by
 have h1 := qu4 a.na 1
 have h2 := qu4 a.pl 2
 have h4 := qu4 a.mi 4
 refine Q5 (n := 75) (fn := Tryz.f10) kr rfl rfl (Nat.le_of_ble_eq_true rfl) trivial ⟨.inl (fun e => by cases e), rfl⟩ ?_
 have T0 : Sm Nix h h := .refl
 refine z1 2 kr (q5 (q7 (z1 1 kr (L_c rfl rfl kr (qy7 (c900.ext T0)) ?_))))
 rintro v91 h91 ⟨e91, t91⟩
 try dsimp only at e91 t91
 subst e91
 have T91 := T0.ext t91
 have N91 := T91.nx
 have M91 := t91.nx
 refine L_g 1 kr (q5 (Q2 kr (z6 (q7 (u4 kr (D_e (e := 5) (l := [0,1,2,3,4,6,7,8,9,10,13,14,15,16,17,20,21,22,23,24,25,26,28,29,30,31,32]) (s' := [6,7,8,9,10,13,14,15,16,17,20,21,22,23,24,25,26,28,29,30,31,32]) kr kr rfl kr z4 (z2 4 kr (q9 _ rfl rfl kr kr kr ((c900.ext T91).ld (o := 37) kr U3) (z2 4 kr (q9 _ rfl rfl kr kr kr ((c900.ext T91).ld (o := 38) kr U2) (z2 4 kr ?_)))))))))))
 refine q9 _ rfl rfl kr kr kr ((c900.ext T91).ld (o := 39) kr U6) (z2 4 kr (q9 _ rfl rfl kr kr kr ((c900.ext T91).ld (o := 40) kr J9) (U8 (.int .u8 (a.ze : Int)) rfl kr rfl kr (ev_conv (o := _) rfl kr (qx5 (by omega))) (U8 (.int .u8 ((8 * a.ze : Nat) : Int)) rfl kr rfl kr (ev_bin (o := _) rfl kr kr (qk9 (a := 8) (by omega))) (z2 4 kr (q9 _ rfl rfl kr kr kr ((Cl.ldS (o := 1) (k := 36) (c900.ext T91) kr (by rw [Z1]; decide)).trans (by rw [E6])) (z5 (L_c rfl rfl kr (zx3 (v := a.na) (x := 1)) ?_))))))))
 rintro v92 h92 ⟨e92, t92⟩
 try dsimp only at e92 t92
 subst e92
 have T92 := T91.ext t92
 have N92 := T92.nx
 have M92 := t92.nx
 refine q5 ⟨rfl, ?_⟩
 refine D_e (e := 11) (l := []) (s' := [13,14,15,16,17,20,21,22,23,24,25,26,28,29,30,31,32]) kr kr rfl kr (z3 rfl rfl (z3 rfl rfl (z3 rfl rfl (z3 rfl rfl (u6 _ rfl rfl rfl kr ((c900.ext T92).ld (o := 38) kr U2) kr (z3 rfl rfl (z3 rfl rfl (z3 rfl rfl (z3 rfl rfl (u6 _ rfl rfl rfl kr ((c900.ext T92).ld (o := 39) kr U6) kr (z3 rfl rfl (z3 rfl rfl (z3 rfl rfl (z3 rfl rfl (u6 _ rfl rfl rfl kr ((c900.ext T92).ld (o := 40) kr J9) kr (V8 (v := (.int .u8 (a.ze : Int))) rfl rfl (ev_conv (o := _) rfl kr (qx5 (by omega))) kr (V8 (v := (.int .u8 ((8 * a.ze : Nat) : Int))) rfl rfl (ev_bin (o := _) rfl kr kr (qk9 (a := 8) (by omega))) kr (z3 rfl rfl (z3 rfl rfl (z3 rfl rfl (z3 rfl rfl (u6 _ rfl rfl rfl kr ((Cl.ldS (o := 1) (k := 36) (c900.ext T92) kr (by rw [Z1]; decide)).trans (by rw [E6])) kr z4)))))))))))))))))))))) (z5 (L_c rfl rfl kr (zx3 (v := a.pl) (x := 2)) ?_))
 rintro v93 h93 ⟨e93, t93⟩
 try dsimp only at e93 t93
 subst e93
 have T93 := T92.ext t93
 have N93 := T93.nx
 have M93 := t93.nx
 refine q5 ⟨rfl, ?_⟩
 refine D_e (e := 18) (l := [12]) (s' := [20,21,22,23,24,25,26,28,29,30,31,32,12]) kr kr rfl kr (z3 rfl rfl (z3 rfl rfl (z3 rfl rfl (z3 rfl rfl (u6 _ rfl rfl rfl kr ((c900.ext T93).ld (o := 39) kr U6) kr (z3 rfl rfl (z3 rfl rfl (z3 rfl rfl (z3 rfl rfl (u6 _ rfl rfl rfl kr ((c900.ext T93).ld (o := 40) kr J9) kr (V8 (v := (.int .u8 (a.ze : Int))) rfl rfl (ev_conv (o := _) rfl kr (qx5 (by omega))) kr (V8 (v := (.int .u8 ((8 * a.ze : Nat) : Int))) rfl rfl (ev_bin (o := _) rfl kr kr (qk9 (a := 8) (by omega))) kr (z3 rfl rfl (z3 rfl rfl (z3 rfl rfl (z3 rfl rfl (u6 _ rfl rfl rfl kr ((Cl.ldS (o := 1) (k := 36) (c900.ext T93) kr (by rw [Z1]; decide)).trans (by rw [E6])) kr z4))))))))))))))))) (U8 (.int .u8 ((b2n a.na 1 + b2n a.pl 2 : Nat) : Int)) rfl kr rfl kr (ev_bin (o := _) rfl kr kr (E9 (by omega))) (z5 (L_c rfl rfl kr (zx3 (v := a.mi) (x := 4)) ?_)))
 rintro v94 h94 ⟨e94, t94⟩
 try dsimp only at e94 t94
 subst e94
 have T94 := T93.ext t94
 have N94 := T94.nx
 have M94 := t94.nx
 refine q5 ⟨rfl, ?_⟩
 refine D_e (e := 33) (l := [19,27]) (s' := [20,21,22,23,24,25,26,12,19,27]) kr kr rfl kr (z3 rfl rfl (z3 rfl rfl (z3 rfl rfl (z3 rfl rfl (u6 _ rfl rfl rfl kr ((c900.ext T94).ld (o := 40) kr J9) kr (V8 (v := (.int .u8 (a.ze : Int))) rfl rfl (ev_conv (o := _) rfl kr (qx5 (by omega))) kr (V8 (v := (.int .u8 ((8 * a.ze : Nat) : Int))) rfl rfl (ev_bin (o := _) rfl kr kr (qk9 (a := 8) (by omega))) kr (z3 rfl rfl (z3 rfl rfl (z3 rfl rfl (z3 rfl rfl (u6 _ rfl rfl rfl kr ((Cl.ldS (o := 1) (k := 36) (c900.ext T94) kr (by rw [Z1]; decide)).trans (by rw [E6])) kr (V8 (v := (.int .u8 ((b2n a.na 1 + b2n a.pl 2 : Nat) : Int))) rfl rfl (ev_bin (o := _) rfl kr kr (E9 (by omega))) kr z4))))))))))))) (U8 (.int .u8 ((b2n a.na 1 + b2n a.pl 2 + b2n a.mi 4 : Nat) : Int)) rfl kr rfl kr (ev_bin (o := _) rfl kr kr (E9 (a := b2n a.na 1 + b2n a.pl 2) (by omega))) (U8 (.int .u8 (a.fl : Int)) rfl kr rfl kr (ev_bin (o := _) rfl kr kr (E9 (a := b2n a.na 1 + b2n a.pl 2 + b2n a.mi 4) (b := 8 * a.ze) (by omega))) (z5 (L_c rfl rfl kr (zk0 (X := a.s) hs) ?_))))
 rintro v95 h95 ⟨e95, t95⟩
 try dsimp only at e95 t95
 subst e95
 have T95 := T94.ext t95
 have N95 := T95.nx
 have M95 := t95.nx
 refine q5 ⟨rfl, ?_⟩
 refine D_e (e := 34) (l := []) (s' := [20,21,22,23,24,25,26,12,19,27]) kr kr rfl kr (z3 rfl rfl (z3 rfl rfl (z3 rfl rfl (z3 rfl rfl (u6 _ rfl rfl rfl kr ((c900.ext T95).ld (o := 40) kr J9) kr (V8 (v := (.int .u8 (a.ze : Int))) rfl rfl (ev_conv (o := _) rfl kr (qx5 (by omega))) kr (V8 (v := (.int .u8 ((8 * a.ze : Nat) : Int))) rfl rfl (ev_bin (o := _) rfl kr kr (qk9 (a := 8) (by omega))) kr (V8 (v := (.int .u8 ((b2n a.na 1 + b2n a.pl 2 : Nat) : Int))) rfl rfl (ev_bin (o := _) rfl kr kr (E9 (by omega))) kr (V8 (v := (.int .u8 ((b2n a.na 1 + b2n a.pl 2 + b2n a.mi 4 : Nat) : Int))) rfl rfl (ev_bin (o := _) rfl kr kr (E9 (a := b2n a.na 1 + b2n a.pl 2) (by omega))) kr (V8 (v := (.int .u8 (a.fl : Int))) rfl rfl (ev_bin (o := _) rfl kr kr (E9 (a := b2n a.na 1 + b2n a.pl 2 + b2n a.mi 4) (b := 8 * a.ze) (by omega))) kr z4)))))))))) (z5 (L_c rfl rfl kr (zx3 (v := neg? a.s) (x := 1)) ?_))
 rintro v96 h96 ⟨e96, t96⟩
 try dsimp only at e96 t96
 subst e96
 have T96 := T95.ext t96
 have N96 := T96.nx
 have M96 := t96.nx
 refine q5 ⟨rfl, ?_⟩
 refine D_l (l := [35,36]) kr kr (z3 rfl rfl (z3 rfl rfl (z3 rfl rfl (z3 rfl rfl (u6 _ rfl rfl rfl kr ((c900.ext T96).ld (o := 40) kr J9) kr (V8 (v := (.int .u8 (a.ze : Int))) rfl rfl (ev_conv (o := _) rfl kr (qx5 (by omega))) kr (V8 (v := (.int .u8 ((8 * a.ze : Nat) : Int))) rfl rfl (ev_bin (o := _) rfl kr kr (qk9 (a := 8) (by omega))) kr (V8 (v := (.int .u8 ((b2n a.na 1 + b2n a.pl 2 : Nat) : Int))) rfl rfl (ev_bin (o := _) rfl kr kr (E9 (by omega))) kr (V8 (v := (.int .u8 ((b2n a.na 1 + b2n a.pl 2 + b2n a.mi 4 : Nat) : Int))) rfl rfl (ev_bin (o := _) rfl kr kr (E9 (a := b2n a.na 1 + b2n a.pl 2) (by omega))) kr (V8 (v := (.int .u8 (a.fl : Int))) rfl rfl (ev_bin (o := _) rfl kr kr (E9 (a := b2n a.na 1 + b2n a.pl 2 + b2n a.mi 4) (b := 8 * a.ze) (by omega))) kr z4)))))))))) (qu8 [.int .u8 (a.fl : Int), .int .u8 (b2n (neg? a.s) 1 : Int)] (.sl 2 2) rfl kr rfl rfl kr (z3 rfl rfl (z3 rfl rfl (z3 rfl rfl (z3 rfl rfl (u6 _ rfl rfl rfl kr ((c900.ext (T96.ext (.push h96 _))).ld (o := 40) kr J9) kr (V8 (v := (.int .u8 (a.ze : Int))) rfl rfl (ev_conv (o := _) rfl kr (qx5 (by omega))) kr (V8 (v := (.int .u8 ((8 * a.ze : Nat) : Int))) rfl rfl (ev_bin (o := _) rfl kr kr (qk9 (a := 8) (by omega))) kr (V8 (v := (.int .u8 ((b2n a.na 1 + b2n a.pl 2 : Nat) : Int))) rfl rfl (ev_bin (o := _) rfl kr kr (E9 (by omega))) kr (V8 (v := (.int .u8 ((b2n a.na 1 + b2n a.pl 2 + b2n a.mi 4 : Nat) : Int))) rfl rfl (ev_bin (o := _) rfl kr kr (E9 (a := b2n a.na 1 + b2n a.pl 2) (by omega))) kr (V8 (v := (.int .u8 (a.fl : Int))) rfl rfl (ev_bin (o := _) rfl kr kr (E9 (a := b2n a.na 1 + b2n a.pl 2 + b2n a.mi 4) (b := 8 * a.ze) (by omega))) kr (z3 rfl rfl z4))))))))))) fun h97 c97 t97 n97 => ?_)
 have T97 := T96.ext t97
 have N97 := T97.nx
 refine z2 1 kr (z5 (z1 4 kr (z9 _ rfl rfl kr ((Cl.ldS (o := 1) (k := 36) (c900.ext T97) kr (by rw [Z1]; decide)).trans (by rw [E6])) (L_c rfl rfl kr (yq6 (X := a.s) hs) ?_))))
 rintro v98 h98 ⟨e98, t98⟩
 try dsimp only at e98 t98
 subst e98
 replace c97 := c97.ext t98
 have T98 := T97.ext t98
 have N98 := T98.nx
 have M98 := t98.nx
 refine Q1 (wl (fun _ => 0)) .ptr rfl rfl kr fun h99 c99 t99 n99 => ?_
 replace c97 := c97.ext t99
 have T99 := T98.ext t99
 have N99 := T99.nx
 obtain ⟨h100, e100, d100, t100, n100⟩ := Cl.storeN (P := Tryz.prog) (T := 79) (n := 36) (v := .agg ⟨(wl (word (absN a.s)))⟩) (cs := (wl (word (absN a.s)))) c99 (u5 _) kr rfl (u5 _) K7
 replace c97 := c97.sn t100
 replace c99 := d100
 have T100 := T99.tr t100
 have N100 := T100.nx
 refine Q3 _ rfl rfl rfl kr kr (e100) (q5 (q7 (q7 (q6 (z9 _ rfl rfl kr (Cl.allN (n := 36) c99 (u5 _) kr) (L_c rfl rfl kr (zz0 (X := absN a.s)) ?_))))))
 rintro v101 h101 ⟨e101, t101⟩
 try dsimp only at e101 t101
 subst e101
 replace c97 := c97.ext t101
 replace c99 := c99.ext t101
 have T101 := T100.ext t101
 have N101 := T101.nx
 have M101 := t101.nx
 refine L_p (nv ((lenN (absN a.s) + 7 : Nat) : Int)) rfl (ev_bin (o := _) rfl kr kr (qk3 (a := lenN (absN a.s)) (b := 7) (by omega))) (L_p (nv (a.nb : Int)) rfl (ev_bin (o := _) rfl kr kr (qk0 (a := lenN (absN a.s) + 7) (b := 7) (by omega))) (L_g 1 kr (q5 (u3 ?_))))
 refine J5 (fun mm fr hh => ∃ (i : Nat) (sv : Value), (i ≤ a.nb) /\ (Bs 5 hh sv ((UInt8.ofNat a.fl :: UInt8.ofNat (b2n (neg? a.s) 1) :: encR (absN a.s) a.nb i).map bv)) /\ (∀ q, vb sv = some q -> h.next ≤ q /\ q ≠ h98.next) /\ mm = i /\ fr 4 = sv /\ fr 5 = ptr (h98.next) /\ fr 6 = nv (i : Int) /\ Sm Nix h hh /\ Cl hh (h98.next) (wl (word (absN a.s)))) (a.nb) ?_ ?_
 ·
  have hB0 : Bs 5 h101 (.slice (some ⟨h96.next, 0, none⟩) 2 2) ((UInt8.ofNat a.fl :: UInt8.ofNat (b2n (neg? a.s) 1) :: encR (absN a.s) a.nb a.nb).map bv) := by
   rw [encR_n]
   refine ⟨(fun e => by cases e), h96.next, c97.lt, .inl ⟨rfl, (show 2 < u7 by decide), ?_⟩⟩
   show Arm.Cl _ _ [bv _, bv _]
   rw [zg8 (fl_lt hz), zg8 (by have := qu4 (neg? a.s) 1; omega)]
   exact c97
  exact ⟨a.nb, _, (Nat.le_refl _), hB0, (fun q hq => by have hq : h96.next = q := Option.some.inj hq; omega), rfl, kr, kr, kr, T101, c99⟩
 rintro mm102 fr102 h102 ⟨i, sv, hi, BB9, hvb, hm102, y102_4, y102_5, y102_6, T102, c99⟩
 have N102 := T102.nx
 have B102_t5 := c99.lt
 refine j8 (k := 4) y102_4 (j8 (k := 5) y102_5 (j8 (k := 6) y102_6 (q7 (z1 1 kr (L_i ((i : Int)) (0) (.bool (decide (0 < i))) rfl rfl kr kr rfl (gtI i) (q5 ?_))))))
 refine Q0 (decide (0 < i)) kr (fun hb => ?_) (fun hb => ?_)
 ·
  have hp : 0 < i := by simpa using hb
  obtain ⟨k, rfl⟩ : ∃ k, i = k + 1 := ⟨i - 1, by omega⟩
  have hk8 : k / 8 < 36 := by unfold Sa.nb at hi; omega
  refine z6 (q7 (u3 (Z3 2 kr (L_p (nv (k : Int)) rfl (ev_bin (o := _) rfl kr kr (qj2 (a := k + 1) (b := 1) (by omega) (by omega))) (L_p (nv ((k / 8 : Nat) : Int)) rfl (ev_bin (o := _) rfl kr kr (qk0 (b := 7) (by omega))) (Z8 _ rfl rfl kr kr (ixA0 (b := h98.next) (i := (k / 8)) kr (hk8)) (z9 _ rfl rfl kr (c99.ld (o := k / 8) kr (E2 hk8)) (L_g 1 kr (L_p (nv (k : Int)) rfl (ev_bin (o := _) rfl kr kr (qj2 (a := k + 1) (b := 1) (by omega) (by omega))) (L_p (nv ((k % 8 : Nat) : Int)) rfl (ev_bin (o := _) rfl kr kr (qj9 (b := 7))) ?_))))))))))
  refine L_p (nv ((8 * (k % 8) : Nat) : Int)) rfl (ev_bin (o := _) rfl kr kr (uq9 (a := 8) (b := k % 8) (by omega))) (L_p (uv (word (absN a.s) (k / 8) / 2 ^ (8 * (k % 8)))) rfl (ev_bin (o := _) rfl kr kr (qj3 (k := .i64) (s := 8 * (k % 8)) (by omega))) (L_p (.int .u8 (byt (absN a.s) k : Int)) rfl (ev_conv (o := _) rfl kr (uu0.trans (by rw [xg9]))) (Q1 [.int .u8 (byt (absN a.s) k : Int)] (.sl 1 1) rfl rfl kr fun h103 c103 t103 n103 => ?_)))
  replace c99 := c99.ext t103
  have T103 := T102.ext t103
  have N103 := T103.nx
  obtain ⟨h104, e104, B104, t104, n104⟩ := (BB9.sm t103 (fun _ _ x => x)).app (P := Tryz.prog) (sT := 23) (xT := 23) (by_ := 1) (z := .int .u8 0) (u := .slice (some ⟨h102.next, 0, none⟩) 1 1) (x := .int .u8 (byt (absN a.s) k : Int)) kr kr kr kr kr rfl kr (c103.sd (n := 1) rfl).rb rfl (by rw [List.length_map, List.length_cons, List.length_cons]; unfold encR; rw [List.length_map, List.length_reverse, List.length_drop, List.length_range]; unfold Sa.nb at *; omega)
  rw [Qj1 hi] at B104
  refine V9 _ h104 rfl rfl kr (vs := [sv, .slice (some ⟨h102.next, 0, none⟩) 1 1]) kr (uu9 e104) ?_
  replace c99 := c99
  replace c103 := c103
  have T104 : Sm Nix h h104 := T103.trans t104 (fun x hx => .inr (hvb x hx).1)
  have N104 := T104.nx
  replace c99 := c99.sm t104 (fun hx => (hvb _ hx).2 rfl)
  refine L_g 1 kr (q5 (Z3 1 kr (L_p (nv (k : Int)) rfl (ev_bin (o := _) rfl kr kr (qj2 (a := k + 1) (b := 1) (by omega) (by omega))) (L_g 1 kr (q5 ?_)))))
  exact ⟨k, by omega, k, _, by omega, B104, (fun q hq => by have hq : h103.next = q := Option.some.inj hq; have := c99.lt; omega), rfl, kr, kr, kr, T104, c99⟩
 ·
  have hp : ¬ 0 < i := by simpa using hb
  obtain rfl : i = 0 := by omega
  refine J8 ?_
  refine rx ?_
  refine Q7 (z1 3 kr (q5 (j7 ?_)))
  refine rr ?_
  refine z0 (v := .tuple ⟨[sv, nv 0]⟩) (.inl rfl) kr ?_
  exact ⟨sv, rfl, BB9, T102, fun q hq => (hvb q hq).1⟩
end
end Go.Proofs.YtjealfplbigphaaGreat
namespace Go.Arm
noncomputable section
open Go Go.X
variable {P : Program} {n : Nat}
def noRF : Code -> Bool
 | .seq x y => noRF x && noRF y
 | .cond _ x y => noRF x && noRF y
 | .block _ c => !isRange c && noRF c
 | .loop c => noRF c
 | .rangeFunc _ _ _ _ => false
 | .skip => true
 | .label _ => true
 | .ret => true
 | .exit _ => true
 | .region _ _ _ => true
 | _ => false
def setDs (ds : List Nat) (o : Out) : Out := ⟨o.ex, o.t, ds, o.h⟩
def omap (ds : List Nat) (x : COuts) : COuts := x.map (List.map (setDs ds))
theorem zw9 (ds : List Nat) (x y : COuts) : omap ds (joinL x y) = joinL (omap ds x) (omap ds y) := by
 cases x <;> cases y <;> simp [omap, joinL]
def Dsp (e : Ev) : Prop := (∀ t h l, e t [] h = some l -> ∀ o, o ∈ l -> o.ds = []) /\ ∀ t ds h, e t ds h = omap ds (e t [] h)
theorem Dsp.const {f : T Value -> AH -> Ex} : Dsp (fun t ds h => some [⟨f t h, t, ds, h⟩]) :=
 ⟨fun t h l e o ho => by cases e; cases List.mem_singleton.1 ho; rfl, fun t ds h => rfl⟩
theorem go_ds {y : Out -> COuts} {z : List Nat -> Out -> COuts} : ∀ (l : List Out), (∀ o, o ∈ l -> ∀ m, y o = some m -> ∀ q, q ∈ m -> q.ds = []) -> ∀ m, bindL.go y l = some m -> ∀ q, q ∈ m -> q.ds = []
 | [], _, m, e, q, hq => by cases e; cases hq
 | [a], hf, m, e, q, hq => hf a (by simp) m e q hq
 | a :: b :: l, hf, m, e, q, hq => by
  have e : joinL (y a) (bindL.go y (b :: l)) = some m := e
  unfold joinL at e
  split at e
  . rename_i m1 m2 e1 e2
    cases e
    rcases List.mem_append.1 hq with h | h
    . exact hf a (by simp) m1 e1 q h
    . exact go_ds (z := z) (b :: l) (fun o ho => hf o (List.mem_cons_of_mem _ ho)) m2 e2 q h
  . cases e
theorem ux5 {y y' : Out -> COuts} {ds : List Nat} : ∀ (l : List Out), (∀ o, o ∈ l -> y' (setDs ds o) = omap ds (y o)) -> bindL.go y' (l.map (setDs ds)) = omap ds (bindL.go y l)
 | [], _ => rfl
 | [a], hf => hf a (by simp)
 | a :: b :: l, hf => by
  have ih := ux5 (b :: l) (fun o ho => hf o (List.mem_cons_of_mem _ ho))
  show joinL (y' (setDs ds a)) (bindL.go y' ((b :: l).map (setDs ds))) = omap ds (joinL (y a) (bindL.go y (b :: l)))
  rw [zw9, ih, hf a (by simp)]
theorem yj0 {y : Ev} (hy : Dsp y) {o : Out} (ho : o.ds = []) (ds : List Nat) : thenX y (setDs ds o) = omap ds (thenX y o) /\ ∀ m, thenX y o = some m -> ∀ q, q ∈ m -> q.ds = [] := by
 rw [F4, F4]
 obtain ⟨ex, t, d, h⟩ := o
 cases ho
 cases ex with
 | normal => exact ⟨hy.2 t ds h, fun m e q hq => hy.1 t h m e q hq⟩
 | ret => exact ⟨rfl, fun m e q hq => by cases e; cases List.mem_singleton.1 hq; rfl⟩
 | exit i => exact ⟨rfl, fun m e q hq => by cases e; cases List.mem_singleton.1 hq; rfl⟩
theorem Dsp.bind {x : Ev} {g : Out -> COuts} (hx : Dsp x) (hg : ∀ o, o.ds = [] -> (∀ ds, g (setDs ds o) = omap ds (g o)) /\ ∀ m, g o = some m -> ∀ q, q ∈ m -> q.ds = []) : Dsp (fun t ds h => bindL (x t ds h) g) := by
 refine ⟨fun t h l e => ?_, fun t ds h => ?_⟩
 . dsimp only at e
   cases hl : x t [] h with
   | none => rw [hl] at e; cases e
   | some m =>
    rw [hl] at e
    exact go_ds (z := fun _ _ => none) m (fun o ho => (hg o (hx.1 t h m hl o ho)).2) l e
 . dsimp only
   rw [hx.2 t ds h]
   cases hl : x t [] h with
   | none => rfl
   | some m => exact ux5 m (fun o ho => (hg o (hx.1 t h m hl o ho)).1 ds)
theorem Dsp.then {x y : Ev} (hx : Dsp x) (hy : Dsp y) : Dsp (cThen x y) :=
 Dsp.bind hx fun _ ho => ⟨fun ds => (yj0 hy ho ds).1, (yj0 hy ho []).2⟩
theorem Dsp.loop {x : Ev} (hx : Dsp x) : ∀ k, Dsp (aLoop x k)
 | 0 => ⟨(fun t h l e => by cases e), fun t ds h => rfl⟩
 | k + 1 => hx.then (Dsp.loop hx k)
theorem Dsp.code {call : Call1} {LF : Nat} {ro : Option Nat} : ∀ (c : Code), noRF c = true -> Dsp (aCode P call n LF ro c)
 | .skip, _ => Dsp.const
 | .label _, _ => Dsp.const
 | .ret, _ => Dsp.const
 | .exit _, _ => Dsp.const
 | .region _ ops draw, _ => by
  refine ⟨fun t h l e o ho => ?_, fun t ds h => ?_⟩
  . have e : cRegion P call n ops draw t [] h = some l := e
    unfold cRegion at e
    generalize (Bool.rec (motive := fun _ => Option (List (T Value × AH))) (aOps P call n ops ops.toList t h) (aDraw P call n ops t h) draw) = z at e
    cases z with
    | none => cases e
    | some m =>
      have key : ∀ (m : List (T Value × AH)) (l : List Out), bindL.go (fun p => some [(⟨.normal, p.1, [], p.2⟩ : Out)]) m = some l -> ∀ o, o ∈ l -> o.ds = [] := by
       intro m
       induction m with
       | nil => intro l e o ho; cases e; cases ho
       | cons a m ih =>
        cases m with
        | nil => intro l e o ho; cases e; cases List.mem_singleton.1 ho; rfl
        | cons b m =>
         intro l e o ho
         have e : joinL (some [(⟨.normal, a.1, [], a.2⟩ : Out)]) (bindL.go (fun p => some [(⟨.normal, p.1, [], p.2⟩ : Out)]) (b :: m)) = some l := e
         unfold joinL at e
         split at e
         . rename_i m1 m2 e1 e2
           cases e1; cases e
           rcases List.mem_append.1 ho with h | h
           . cases List.mem_singleton.1 h; rfl
           . exact ih _ e2 o h
         . cases e
      exact key m l e o ho
  . show cRegion P call n ops draw t ds h = omap ds (cRegion P call n ops draw t [] h)
    unfold cRegion
    generalize (Bool.rec (motive := fun _ => Option (List (T Value × AH))) (aOps P call n ops ops.toList t h) (aDraw P call n ops t h) draw) = z
    cases z with
    | none => rfl
    | some m =>
      have key : ∀ (m : List (T Value × AH)), bindL.go (fun p => some [(⟨.normal, p.1, ds, p.2⟩ : Out)]) m = omap ds (bindL.go (fun p => some [(⟨.normal, p.1, [], p.2⟩ : Out)]) m) := by
       intro m
       induction m with
       | nil => rfl
       | cons a m ih =>
        cases m with
        | nil => rfl
        | cons b m =>
         show joinL (some [(⟨.normal, a.1, ds, a.2⟩ : Out)]) (bindL.go (fun p : T Value × AH => some [(⟨.normal, p.1, ds, p.2⟩ : Out)]) (b :: m)) = omap ds (joinL (some [(⟨.normal, a.1, [], a.2⟩ : Out)]) (bindL.go (fun p : T Value × AH => some [(⟨.normal, p.1, [], p.2⟩ : Out)]) (b :: m)))
         rw [zw9, ih]; rfl
      exact key m
 | .seq x y, hc => by
  unfold noRF at hc
  rw [Bool.and_eq_true] at hc
  exact (Dsp.code x hc.1).then (Dsp.code y hc.2)
 | .cond q x y, hc => by
  unfold noRF at hc
  rw [Bool.and_eq_true] at hc
  have hx := Dsp.code (call := call) (LF := LF) (ro := ro) x hc.1
  have hy := Dsp.code (call := call) (LF := LF) (ro := ro) y hc.2
  refine ⟨fun t h l e => ?_, fun t ds h => ?_⟩
  . have e : cCond n q (aCode P call n LF ro x) (aCode P call n LF ro y) t [] h = some l := e
    unfold cCond at e
    split at e
    . rename_i b _
      cases b with
      | true => exact hx.1 t h l e
      | false => exact hy.1 t h l e
    . cases e
  . show cCond n q (aCode P call n LF ro x) (aCode P call n LF ro y) t ds h = omap ds (cCond n q (aCode P call n LF ro x) (aCode P call n LF ro y) t [] h)
    unfold cCond
    split
    . rename_i b _
      cases b with
      | true => exact hx.2 t ds h
      | false => exact hy.2 t ds h
    . rfl
 | .block id c, hc => by
  unfold noRF at hc
  rw [Bool.and_eq_true] at hc
  have hr : isRange c = false := by simpa using hc.1
  have hx := Dsp.code (call := call) (LF := LF) (ro := ro) c hc.2
  have e : aCode P call n LF ro (.block id c) = cBlock id (aCode P call n LF ro c) := by
    show cBlockX c id (aCode P call n LF ro c) = _
    unfold cBlockX
    rw [hr]
  rw [e]
  refine hx.bind fun o ho => ?_
  obtain ⟨ex, t, d, h⟩ := o
  cases ho
  cases ex with
  | normal => exact ⟨fun ds => rfl, fun m e q hq => by cases e; cases List.mem_singleton.1 hq; rfl⟩
  | ret => exact ⟨fun ds => rfl, fun m e q hq => by cases e; cases List.mem_singleton.1 hq; rfl⟩
  | exit k =>
    have h1 : ∀ d, outX id ⟨.exit k, t, d, h⟩ = some [⟨if k = id then .normal else .exit k, t, d, h⟩] := by
      intro d
      show (Bool.rec (motive := fun _ => COuts) (some [(⟨.exit k, t, d, h⟩ : Out)]) (some [⟨.normal, t, d, h⟩]) (Nat.beq k id)) = _
      rw [yx0]
      split <;> rfl
    exact ⟨fun ds => by show outX id ⟨.exit k, t, ds, h⟩ = omap ds (outX id ⟨.exit k, t, [], h⟩); rw [h1, h1]; rfl, fun m e q hq => by rw [h1] at e; cases e; cases List.mem_singleton.1 hq; rfl⟩
 | .loop c, hc => by
  unfold noRF at hc
  exact (Dsp.code c hc).loop LF
 | .rangeFunc _ _ _ _, hc => by cases hc
 | .scope _, hc => by cases hc
 | .goto _, hc => by cases hc
 | .refuse _, hc => by cases hc
theorem qx6 {call : Call1} {LF : Nat} {ro : Option Nat} : ∀ (c : Code), noRF c = true -> aCode P call n LF ro c = aCode P call n LF none c
 | .skip, _ => rfl
 | .label _, _ => rfl
 | .ret, _ => rfl
 | .exit _, _ => rfl
 | .region _ _ _, _ => rfl
 | .seq x y, hc => by
  unfold noRF at hc
  rw [Bool.and_eq_true] at hc
  show cThen (aCode P call n LF ro x) (aCode P call n LF ro y) = cThen (aCode P call n LF none x) (aCode P call n LF none y)
  rw [qx6 x hc.1, qx6 y hc.2]
 | .cond q x y, hc => by
  unfold noRF at hc
  rw [Bool.and_eq_true] at hc
  show cCond n q (aCode P call n LF ro x) (aCode P call n LF ro y) = cCond n q (aCode P call n LF none x) (aCode P call n LF none y)
  rw [qx6 x hc.1, qx6 y hc.2]
 | .block id c, hc => by
  unfold noRF at hc
  rw [Bool.and_eq_true] at hc
  show cBlockX c id (aCode P call n LF ro c) = cBlockX c id (aCode P call n LF none c)
  rw [qx6 c hc.2]
 | .loop c, hc => by
  unfold noRF at hc
  show aLoop (aCode P call n LF ro c) LF = aLoop (aCode P call n LF none c) LF
  rw [qx6 c hc]
 | .rangeFunc _ _ _ _, hc => by cases hc
 | .scope _, hc => by cases hc
 | .goto _, hc => by cases hc
 | .refuse _, hc => by cases hc
end
end Go.Arm
namespace Go.Arm
noncomputable section
open Go Go.X
section
variable {P : Program} [Kn P] {n : Nat}
theorem uj7 {c : Code} (hc : noRF c = true) (t : T Value) (ds : List Nat) (h : AH) : eCode P n none c t ds h = omap ds (eCode P n none c t [] h) := by
 have e : ∀ M, aCode P (kRun P M M) n M none c t ds h = omap ds (aCode P (kRun P M M) n M none c t [] h) := fun M => (Dsp.code c hc).2 t ds h
 have m : Mono (fun M => aCode P (kRun P M M) n M none c t [] h) := J1 none c t [] h
 have m2 : Mono (fun M => aCode P (kRun P M M) n M none c t ds h) := J1 none c t ds h
 show lim (fun M => aCode P (kRun P M M) n M none c t ds h) = omap ds (lim fun M => aCode P (kRun P M M) n M none c t [] h)
 cases hl : lim (fun M => aCode P (kRun P M M) n M none c t [] h) with
 | some l =>
  obtain ⟨i, hi⟩ := (J6 m).1 hl
  exact (J6 m2).2 ⟨i, by rw [e i]; exact congrArg (omap ds) hi⟩
 | none =>
  cases hl2 : lim (fun M => aCode P (kRun P M M) n M none c t ds h) with
  | none => rfl
  | some l =>
   obtain ⟨i, hi⟩ := (J6 m2).1 hl2
   have hi : aCode P (kRun P i i) n i none c t ds h = some l := hi
   rw [e i] at hi
   cases h0 : aCode P (kRun P i i) n i none c t [] h with
   | none => rw [h0] at hi; cases hi
   | some l0 => rw [(J6 m).2 ⟨i, h0⟩] at hl; cases hl
theorem yw0 {c : Code} (hc : noRF c = true) (ro : Option Nat) : eCode P n ro c = eCode P n none c := by
 funext t ds h
 show lim (fun M => aCode P (kRun P M M) n M ro c t ds h) = lim (fun M => aCode P (kRun P M M) n M none c t ds h)
 congr 1
 funext M
 rw [qx6 c hc]
theorem uj6 {an : AN} {h : AH} (ho : ∀ call : Call1, ovK P call an h = call an h) : eRun P an h = lim (fun M => aFun P M (kRun P M M) an h) := by
 refine yz4 (qq6 _ _) (fun i j hij => qw6 (V6 hij hij) hij an h) ?_ ?_
 . intro i a hi
   cases i with
   | zero => cases hi
   | succ i =>
    have hi : ovK P (aFun P (i + 1) (kRun P (i + 1) i)) an h = some a := hi
    rw [ho] at hi
    exact ⟨i + 1, qw6 (V6 (Nat.le_succ i) (Nat.le_refl _)) (Nat.le_refl _) an h a hi⟩
 . intro i a hi
   refine ⟨i + 1, ?_⟩
   show ovK P (aFun P (i + 1) (kRun P (i + 1) i)) an h = _
   rw [ho]
   exact qw6 (V6 (Nat.le_refl i) (Nat.le_succ i)) (Nat.le_succ i) an h a hi
theorem jy8 {call : Call1} {b sz : Nat} {ts : T Value} {asg body : Code} {h : AH} : ovK P call (.round b ts sz asg body) h = call (.round b ts sz asg body) h := by
 show ovF P call (.round b ts sz asg body) h = _
 unfold ovF
 cases Kn.f P with
 | none => rfl
 | some g => rfl
theorem xu1 {b sz : Nat} {ts : T Value} {asg body : Code} {h : AH} {R : Value × AH -> Prop} (hna : noRF asg = true) (hnb : noRF body = true)
    (hW : W P sz asg (fun e f w => e = .normal /\ ∃ pend ts' sz' ps asg' body', w.m.get b = some (.loop .ready pend ts' sz' ps asg' body') /\
      W P sz body (fun e2 _ w2 => e2 = .normal /\ ∃ st pend2 ts2 sz2 ps2 asg2 body2, w2.m.get b = some (.loop st pend2 ts2 sz2 ps2 asg2 body2) /\ R (.bool true, putLoop w2 b (.loop .ready none ts2 sz2 ps2 asg2 body2))) f (putLoop w b (.loop .busy pend ts' sz' ps asg' body'))) (fr ts) h) :
    RX (eRun P (.round b ts sz asg body) h) R := by
  rw [uj6 (fun call => jy8)]
  show RX (lim fun M => bindL (aCode P (kRun P M M) sz M (some b) asg ts [] h) (fun o => (match o.ex with
        | .normal => (match o.h.m.get b with
          | some (.loop .ready pend ts' sz' ps asg' body') => bindL (aCode P (kRun P M M) sz M (some b) body o.t o.ds (putLoop o.h b (.loop .busy pend ts' sz' ps asg' body'))) fun o2 => (match o2.h.m.get b with
            | some (.loop _ _ ts2 sz2 ps2 asg2 body2) => (match o2.ex with
              | .normal => some [(.bool true, putLoop o2.h b (.loop .ready none ts2 sz2 ps2 asg2 body2))]
              | .ret => some [(.bool false, putLoop o2.h b (.loop .done (some .ret) ts2 sz2 ps2 asg2 body2))]
              | .exit id => some [(.bool false, putLoop o2.h b (.loop .done (some (.exit id)) ts2 sz2 ps2 asg2 body2))])
            | _ => none)
          | _ => none)
        | _ => none))) R
  rw [U9 (J1 (some b) asg ts [] h) ?_]
  . have h1 := hW trivial ts rfl
    have e1 : (lim fun M => aCode P (kRun P M M) sz M (some b) asg ts [] h) = eCode P sz none asg ts [] h := by rw [<- yw0 hna (some b)]; rfl
    rw [e1]
    refine V1 (V5 h1 ?_)
    rintro ⟨ex, t, ds, w⟩ ⟨hd, he, pend, ts', sz', ps, asg', body', hg, hB⟩
    dsimp only at hd he hg hB ⊢
    subst hd he
    dsimp only
    rw [hg]
    dsimp only
    rw [U9 (J1 (some b) body t [] _) (fun _ _ _ _ => Sub.refl _)]
    have h2 := hB trivial t rfl
    have e2 : (lim fun M => aCode P (kRun P M M) sz M (some b) body t [] (putLoop w b (.loop .busy pend ts' sz' ps asg' body'))) = eCode P sz none body t [] (putLoop w b (.loop .busy pend ts' sz' ps asg' body')) := by rw [<- yw0 hnb (some b)]; rfl
    rw [e2]
    refine V1 (V5 h2 ?_)
    rintro ⟨ex2, t2, ds2, w2⟩ ⟨hd2, he2, st, pend2, ts2, sz2, ps2, asg2, body2, hg2, hR⟩
    dsimp only at hd2 he2 hg2 hR ⊢
    subst hd2 he2
    rw [Z2]
    rw [hg2]
    exact J0 hR
  . intro o i j hij
    dsimp only
    split
    . split
      . exact Z7 (U5 (V6 hij hij) hij _ _ _ _ _) fun o => Sub.refl _
      . exact Sub.refl _
    . exact Sub.refl _
abbrev PostX := Ex -> Fr -> List Nat -> AH -> Prop
def Wx (P : Program) [Kn P] (n : Nat) (c : Code) (Q : PostX) (f : Fr) (w : AH) : Prop :=
 T.Ok n -> ∀ t, fr t = f -> RX (eCode P n none c t [] w) fun o => Q o.ex (fr o.t) o.ds o.h
variable {Q : PostX} {f : Fr} {w : AH}
theorem yx4 {x y : Code} (h : W P n x (Then (fun f w => Wx P n y Q f w) (fun e f w => Q e f [] w)) f w) : Wx P n (.seq x y) Q f w := by
 intro hn t ht
 rw [qv7]
 refine V1 (V5 (h hn t ht) ?_)
 rintro ⟨ex, t2, d2, h2⟩ ⟨hd, q⟩
 dsimp only at hd q
 subst hd
 rw [F4]
 cases ex with
 | normal => exact q hn t2 rfl
 | exit i => exact J0 q
 | ret => exact J0 q
theorem Wx_rf {x y bl : Code} (h : W P n x (Then (fun f w => ∀ t, fr t = f -> RX (eCode P n none bl t [] w) fun o => RX (thenX (eCode P n none y) o) fun o' => Q o'.ex (fr o'.t) o'.ds o'.h) (fun e f w => Q e f [] w)) f w) : Wx P n (.seq (.seq x bl) y) Q f w := by
 intro hn t ht
 rw [qv7, qv7]
 refine V1 (V1 (V5 (h hn t ht) ?_))
 rintro ⟨ex, t2, d2, h2⟩ ⟨hd, q⟩
 dsimp only at hd q
 subst hd
 rw [F4]
 cases ex with
 | normal => exact q t2 rfl
 | exit i => refine J0 ?_; rw [F4]; exact J0 q
 | ret => refine J0 ?_; rw [F4]; exact J0 q
def lpO (n : Nat) (t : T Value) (ps : List Tmp) (asg body : Code) : AObj := .loop .ready none t n ps asg body
def rfH (h : AH) (n : Nat) (t : T Value) (ps : List Tmp) (asg body : Code) : AH := (h.push .dfr).push (lpO n t ps asg body)
theorem rfZ_ok (h : AH) (l : Nat) (o : AObj) : Sm (fun q => q = l) h ⟨(h.m.set l (some o)).set l none, h.next⟩ := ⟨Nat.le_refl _, fun c _ hc => by
 show ((h.m.set l _).set l _).get c = _
 rw [X.T.get_set, if_neg hc, X.T.get_set, if_neg hc]⟩
theorem rf_ok {id : Nat} {g : FuncId} {fo : Operand} {ps : List Tmp} {asg body y : Code} {t : T Value} {h : AH} {first cap args : List Value} {R : Value × AH -> Prop}
    (hf : ev n (fr t) fo = some (.func (.func g) ⟨first⟩ ⟨cap⟩)) (hr : isRange (.rangeFunc fo ⟨ps⟩ asg body) = false) (ha : args = first ++ [yv (h.next + 1)] ++ cap) (hcf : ∀ h', aCallF P g args h' = some [(.enter g args, h')])
    (hC : Calls P g args (rfH h n t ps asg body) (fun r => r.2.m.get (h.next + 1) = some (lpO n t ps asg body) /\ R r)) (hy : noRF y = true)
    (k : ∀ v h', R (v, h') -> ∀ hz, Sm (fun q => q = h.next + 1) h' hz -> hz.next = h'.next -> W P n y (fun e f w => Q e f [h.next] w) (fr t) hz) :
    RX (eCode P n none (.block id (.rangeFunc fo ⟨ps⟩ asg body)) t [] h) fun o => RX (thenX (eCode P n none y) o) fun o' => Q o'.ex (fr o'.t) o'.ds o'.h := by
  subst ha
  rw [zy6 _ _ _ hr]
  have e1 : eCode P n none (.rangeFunc fo ⟨ps⟩ asg body) t [] h = bindL (eRun P (.enter g (first ++ [yv (h.next + 1)] ++ cap)) (rfH h n t ps asg body)) fun p => (match p.2.m.get (h.next + 1) with
          | some (.loop st pend ts sz ps' asg' body') => (match st, exCode pend with
            | .busy, _ => none
            | _, some ex => some [(⟨ex, t, [h.next] ++ [], { p.2 with m := (p.2.m.set (h.next + 1) (some (.loop .exhausted pend ts sz ps' asg' body'))).set (h.next + 1) none }⟩ : Out)]
            | _, none => none)
          | _ => none) := by
    have e2 : ∀ M, aCode P (kRun P M M) n M none (.rangeFunc fo ⟨ps⟩ asg body) t [] h = bindL (kRun P M M (.enter g (first ++ [yv (h.next + 1)] ++ cap)) (rfH h n t ps asg body)) fun p => (match p.2.m.get (h.next + 1) with
          | some (.loop st pend ts sz ps' asg' body') => (match st, exCode pend with
            | .busy, _ => none
            | _, some ex => some [(⟨ex, t, [h.next] ++ [], { p.2 with m := (p.2.m.set (h.next + 1) (some (.loop .exhausted pend ts sz ps' asg' body'))).set (h.next + 1) none }⟩ : Out)]
            | _, none => none)
          | _ => none) := by
      intro M
      show aCode0 P (kRun P M M) n M none (.rangeFunc fo ⟨ps⟩ asg body) t [] h = _
      simp only [aCode0]
      rw [zq2, hf]
      dsimp only
      have e3 : aEnter n none t ps asg body h = some (h.next + 1, [h.next], rfH h n t ps asg body) := rfl
      rw [e3]
      dsimp only
      rw [hcf]
      rfl
    show lim (fun M => aCode P (kRun P M M) n M none (.rangeFunc fo ⟨ps⟩ asg body) t [] h) = _
    simp only [e2]
    rw [U9 (qq6 _ _) (fun _ _ _ _ => Sub.refl _)]
    unfold eRun
    congr 1
    funext p
    exact Z2 _
  show RX (bindL (eCode P n none (.rangeFunc fo ⟨ps⟩ asg body) t [] h) (outX id)) _
  rw [e1]
  refine V1 (V1 (V5 hC ?_))
  rintro ⟨v, h'⟩ ⟨hg, hR⟩
  dsimp only at hg ⊢
  rw [hg]
  dsimp only [lpO, exCode]
  refine J0 (J0 ?_)
  show RX (eCode P n none y t ([h.next] ++ []) _) _
  rw [uj7 hy]
  obtain ⟨l, hl, hq⟩ := k v h' hR _ (rfZ_ok _ _ _) rfl trivial t rfl
  refine ⟨l.map (setDs [h.next]), by rw [hl]; rfl, fun o ho => ?_⟩
  obtain ⟨o2, ho2, rfl⟩ := List.mem_map.1 ho
  exact (hq o2 ho2).2
def DoneX (P : Program) (n : Nat) (fn : Func) (R : Value × AH -> Prop) : PostX := fun e f ds w => (e = .ret ∨ e = .normal) /\ ∃ w', aLeave ds w = some w' /\ ∀ t, fr t = f -> ∃ v, aRes P n t w' fn.results.toList = some v /\ R (v, w')
theorem xq3 {k : FuncId} {fn : Func} {c : Code} {args : List Value} {R : Value × AH -> Prop}
   (hf : P.funcs[k]? = some fn) (hb : fn.body = some c) (hn : fn.ntmps = n) (hl : args.length ≤ n) (ht : T.Ok (n)) (hk : (Kn.f P ≠ some k ∨ args ≠ []) /\ Kn.g P k args w = none)
   (h : Wx P n c (DoneX P n fn R) (entry args) w) : Calls P k args w R := by
 subst hn
 unfold Calls
 rw [zv7 hf hb hl ht hk.1 w hk.2]
 refine V1 (V5 (h ht _ (xk9 trivial)) ?_)
 rintro ⟨ex, t, ds, h'⟩ ⟨he, w', hw, hq⟩
 dsimp only at he hw hq
 obtain ⟨v, h1, h2⟩ := hq t rfl
 unfold fin
 rcases he with rfl | rfl
 . simp only [hw, h1]; exact J0 h2
 . simp only [hw, h1]; exact J0 h2
end
section
variable {P : Program} [Kn P] {n : Nat} {h : AH} {Q : Post} {f : Fr} {ops : Array Oper} {rest : List Oper} {o : Oper}
theorem Qv2 {fo : Operand} {xs : List Operand} {Ts : Array TypeId} {l : Nat} {args : List Value} {st : LoopState} {pend : Option Code} {ts : T Value} {sz : Nat} {ps : List Tmp} {asg body : Code} {R : Value × AH -> Prop} (ho : o.op = .call ⟨.value fo, ⟨xs⟩, Ts⟩) (hs : okO n o = true) (hf : ev n f fo = some (yv l)) (ha : evs n f xs = some args)
  (hg : h.m.get l = some (.loop st pend ts sz ps asg body)) (hl : args.length = ps.length /\ ps.all (fun p => decide (p < sz)) = true) (hR : RX (eRun P (.round l (setAll ts ps args) sz asg body) h) R)
  (k : ∀ v h', R (v, h') -> L P n ops Q rest (updO f o.dst v) h') : L P n ops Q (o :: rest) f h := by
 refine zk3 (Z6 hs).1 (Z6 hs).2 fun t ht => ?_
 unfold aStep
 have e : aOp P n t h o.op = some [(.round l (setAll ts ps args) sz asg body, h)] := by
  unfold aOp
  rw [ho]
  show aCallO P n t h _ = _
  rw [qv9, ht]
  show (match ev n f fo, evs n f xs with
   | some (.func fn ⟨first⟩ ⟨cap⟩), some vs => aInvoke P fn cap (first ++ vs) h
   | _, _ => none) = _
  rw [hf, ha]
  show aInvoke P (.yield l) [] ([] ++ args) h = _
  unfold aInvoke
  simp only [hg, List.nil_append]
  rw [if_pos hl]
 rw [e]
 refine V5 (x := eRun P (.round l (setAll ts ps args) sz asg body) h) hR ?_
 rintro ⟨v, w''⟩ hR
 exact k v w'' hR
end
end
end Go.Arm
namespace Go.Arm
noncomputable section
open Go Go.X Go.Nu
section
variable {s s' ze : Nat} {na pl mi : Bool} {i j v : Nat}
theorem uk3 {a : Sa} (hi : i < 36) : (accL a)[1 + i]? = some (uv (word a.s i)) := by
 unfold accL
 rw [Nat.add_comm, List.getElem?_cons_succ]
 unfold Sa.cells
 rw [List.getElem?_append_left (by rw [u5]; exact hi), E2 hi]
theorem uk2 (hj : j < 36) (hw : ∀ i, i < 36 -> (if i = j then v else word s i) = word s' i) : (accL ⟨s, na, pl, mi, ze⟩).set (1 + j) (uv v) = accL ⟨s', na, pl, mi, ze⟩ := by
 unfold accL
 rw [Nat.add_comm, List.set_cons_succ]
 unfold Sa.cells
 rw [List.set_append_left _ _ (by rw [u5]; exact hj), qk4 hj, E1 hw]
end
theorem uy0 {P : Program} {h : AH} {T : TypeId} {a : Addr} {v : Value} (hT : scalT P T = true) (hc : h.cell a = some v) : aLoad P T a h = some v := by
 unfold scalT at hT
 unfold aLoad
 split at hT
 . rename_i d hd
   rw [hd]
   dsimp only
   rw [if_neg (by simpa using hT)]
   exact hc
 . cases hT
theorem zw5 {P : Program} {h : AH} {v x : Value} {cs : List Value} {T el : TypeId} {i : Nat} (hT : P.underlying T = some (.slice el)) (hk : szOf P el = some 1) (hs : scalT P el = true) (H : Rb h v cs) (hx : cs[i]? = some x) :
   ∃ b o, aIndex P T v (nv (i : Int)) = some (.pointer (some ⟨b, o, none⟩)) /\ (∀ (S : Nat -> Prop) h', Sm S h h' -> ¬ S b -> aLoad P el ⟨b, o, none⟩ h' = some x) /\ b < h.next /\ vb v = some b := by
 have hi : i < cs.length := (List.getElem?_eq_some_iff.1 hx).1
 rcases H with ⟨h0, _⟩ | ⟨b, o, c, h0, h1, rfl, h2, h3⟩
 . subst h0; exact absurd hi (Nat.not_lt_zero _)
 . refine ⟨b, o + i, ?_, fun S h' t hb => uy0 hs ?_, h2, rfl⟩
   . unfold aIndex nv
     simp only [hT, hk]
     rw [if_pos ⟨by omega, by omega, by omega⟩]
     simp
   . rw [yy3 t h2 hb, h3 i hi, hx]
theorem Qx7 {ts : T Value} {p q : Nat} {a b : Value} : fr (setAll ts [p, q] [a, b]) = upd (upd (fr ts) p a) q b := by
 show fr ((ts.set p (some a)).set q (some b)) = _
 rw [yy0, yy0]
theorem Sm.putLoop {h : AH} {l : Nat} (o : AObj) (_ : l < h.next) : Sm (fun q => q = l) h (putLoop h l o) /\ (putLoop h l o).m.get l = some o /\ (putLoop h l o).next = h.next := by
 refine ⟨⟨Nat.le_refl _, fun c _ hc => ?_⟩, ?_, rfl⟩
 . show (h.m.set l _).get c = _
   rw [X.T.get_set, if_neg hc]
 . show (h.m.set l _).get l = _
   rw [X.T.get_set, if_pos rfl]
theorem qv3 {d : Nat} {h : AH} (hd : h.m.get d = some .dfr) : aLeave [d] h = some { h with m := h.m.set d none } := by
 unfold aLeave
 rw [hd]
 rfl
theorem Sm.drop1 (h : AH) (d : Nat) : Sm (fun q => q = d) h { h with m := h.m.set d none } := ⟨Nat.le_refl _, fun c _ hc => by
 show (h.m.set d _).get c = _
 rw [X.T.get_set, if_neg hc]⟩
theorem qg8 {P : Program} [Kn P] {n : Nat} {fn : Func} {R : Value × AH -> Prop} {e : Ex} {f : Fr} {ds : List Nat} {w w' : AH} {v : Value} (he : e = .ret ∨ e = .normal) (hl : aLeave ds w = some w') (hv : evR P n f w' fn.results.toList = some v) (hR : R (v, w')) : DoneX P n fn R e f ds w :=
 ⟨he, w', hl, fun t ht => ⟨v, by rw [uj1, ht]; exact hv, hR⟩⟩
theorem Qy3 {P : Program} {h : AH} {T : TypeId} {xo yo : Operand} {k : IntKind} {a : Int} : aBin P .neq T xo yo (.int k a) (.int k a) h = some (.bool false) := by
 have e : aBin P .neq T xo yo (.int k a) (.int k a) h = aPure P (do eqGuard .neq T xo yo (.int k a) (.int k a); binOp .neq T (.int k a) (.int k a)) := rfl
 rw [e]
 have e2 : binOp .neq T (.int k a) (.int k a) = (pure (.bool (a != a)) : Sem Value) := by
  unfold binOp
  simp [Op.intCmp]
 show aPure P (binOp .neq T (.int k a) (.int k a)) = _
 rw [e2]
 have : (a != a) = false := by simp
 rw [this]; rfl
end
end Go.Arm
namespace Go.Proofs.YtjealfplbigphaaGreat
noncomputable section
open Go Go.X Go.Arm Go.Mt Go.Nu
theorem qg5 {h : AH} {s1 s2 : Value} {d : List UInt8} (H1 : Rb h s1 (d.map bv)) (H2 : Rb h s2 (d.map bv)) (hd : d.length < 4096) : Arm.Calls Tryz.prog 41 [s1, s2] h (fun r => r.1 = .bool true /\ Sm Nix h r.2) := by
 refine Q5 (n := 26) (fn := Tryz.f41) kr rfl rfl (Nat.le_of_ble_eq_true rfl) trivial ⟨.inl (fun e => by cases e), rfl⟩ ?_
 have T0 : Sm Nix h h := .refl
 refine z1 1 kr (q5 (q7 (z1 1 kr (V4 _ rfl rfl kr ((H1).lenA (T := 23) (el := 5) kr _) (L_g 1 kr (V4 _ rfl rfl kr ((H2).lenA (T := 23) (el := 5) kr _) (L_i (((d.map bv).length : Int)) (((d.map bv).length : Int)) (.bool false) rfl rfl kr kr rfl (by simp) ?_)))))))
 refine q5 (Q2 kr (z6 (q7 (z1 1 kr (V4 _ rfl rfl kr ((H1).lenA (T := 23) (el := 5) kr _) (L_g 1 kr (q5 (u3 ?_))))))))
 refine J5 (fun mm fr hh => ∃ (i : Nat), (i ≤ d.length) /\ mm = d.length - i /\ fr 0 = s1 /\ fr 1 = s2 /\ fr 12 = nv ((d.map bv).length : Int) /\ fr 13 = nv (i : Int) /\ Sm Nix h hh) (d.length) ?_ ?_
 ·
  exact ⟨0, (Nat.zero_le _), rfl, kr, kr, kr, kr, T0⟩
 rintro mm105 fr105 h105 ⟨i, hi, hm105, y105_0, y105_1, y105_12, y105_13, T105⟩
 have N105 := T105.nx
 refine j8 (k := 0) y105_0 (j8 (k := 1) y105_1 (j8 (k := 12) y105_12 (j8 (k := 13) y105_13 (q7 (q6 (L_i ((i : Int)) (((d.map bv).length : Int)) (.bool (decide ((i : Int) < ((d.map bv).length : Int)))) rfl rfl kr kr rfl (rfl) (q5 (q7 ?_))))))))
 refine Q0 (decide ((i : Int) < ((d.map bv).length : Int))) kr (fun hb => ?_) (fun hb => ?_)
 ·
  have hlt : i < d.length := by rw [List.length_map] at hb; simp at hb; omega
  have hx : (d.map bv)[i]? = some (.int .u8 (d[i].toNat : Int)) := by rw [List.getElem?_map, List.getElem?_eq_getElem hlt]; rfl
  obtain ⟨be1, oe1, ie1, le1, _, _⟩ := zw5 (P := Tryz.prog) (T := 23) (el := 5) kr kr kr H1 hx
  obtain ⟨be2, oe2, ie2, le2, _, _⟩ := zw5 (P := Tryz.prog) (T := 23) (el := 5) kr kr kr H2 hx
  refine z6 (q7 (u3 (z1 2 kr (q5 (q7 (u4 kr (D_l (l := [0,1,2,3,4,5,6,7,8]) kr kr z4 (z2 2 kr (U0 _ rfl rfl kr kr kr kr (ie1) ?_)))))))))
  refine q9 _ rfl rfl kr kr kr (le1 _ _ T105 (fun x => x)) (z2 2 kr (U0 _ rfl rfl kr kr kr kr (ie2) (q9 _ rfl rfl kr kr kr (le2 _ _ T105 (fun x => x)) (U8 (.bool false) rfl kr rfl kr (ev_bin (o := _) rfl kr kr (Qy3 (k := .u8) (a := (d[i].toNat : Int)))) (z5 (Q2 kr (z6 (q6 (L_i ((i : Int)) (1) (nv ((i + 1 : Nat) : Int)) rfl rfl kr kr rfl (Z4 (by omega)) (L_g 1 kr (q5 ?_)))))))))))
  exact ⟨d.length - (i + 1), by omega, i + 1, (by omega), rfl, kr, kr, kr, kr, T105⟩
 ·
  refine J8 ?_
  refine rx ?_
  refine Q7 (z1 1 kr (q5 (j7 ?_)))
  refine rr ?_
  refine z0 (v := .bool true) (.inl rfl) kr ?_
  exact ⟨rfl, T105⟩
theorem yg3 {h : AH} {a : Option Addr} {n c : Nat} : Arm.Calls Tryz.prog 39 [.slice a n c] h (fun r => ∃ b, r.1 = .func (.func 58) ⟨[]⟩ ⟨[ptr b]⟩ /\ h.next ≤ b /\ Arm.Cl r.2 b [.slice a n c] /\ Sm Nix h r.2) := by
 refine Q5 (n := 4) (fn := Tryz.f39) kr rfl rfl (Nat.le_of_ble_eq_true rfl) trivial ⟨.inl (fun e => by cases e), rfl⟩ ?_
 have T0 : Sm Nix h h := .refl
 refine q7 (q6 (Q1 [.slice a n c] .ptr rfl rfl kr fun h106 c106 t106 n106 => ?_))
 have T106 := T0.ext t106
 have N106 := T106.nx
 refine L_g 1 kr (q5 (z1 2 kr (q5 (j7 ?_))))
 refine rr ?_
 refine z0 (v := .func (.func 58) ⟨[]⟩ ⟨[ptr (h.next)]⟩) (.inl rfl) kr ?_
 exact ⟨_, rfl, Nat.le_refl _, c106, T106⟩
theorem Q4 {next : Fr -> AH -> Prop} {Q : Post} {f : Fr} {w : AH} (h : next f w) : Then next Q .normal f w := h
theorem Qj9 {h : AH} {x : Nat} (hx : x < 256) : aConv Tryz.prog 5 24 (.int .u8 (x : Int)) h = some (uv x) := by
 have e : aConv Tryz.prog 5 24 (.int .u8 (x : Int)) h = some (.int .u64 (IntKind.u64.wrap (x : Int))) := by kernel_rfl
 rw [e, wrapU, Nat.mod_eq_of_lt (by show _ < 18446744073709551616; omega)]
theorem uu7 (x k : Nat) : byt x k * 2 ^ (8 * (k % 8)) < BB := by
 have h1 := zv9 x k
 have h2 : byt x k * 2 ^ (8 * (k % 8)) < 256 * 2 ^ (8 * (k % 8)) := Nat.mul_lt_mul_of_pos_right h1 (p0 _)
 refine Nat.lt_of_lt_of_le h2 ?_
 rw [bb, show (256 : Nat) = 2 ^ 8 from rfl, <- Nat.pow_add]
 exact Nat.pow_le_pow_right (by decide) (by omega)
theorem ju2 (x k i : Nat) (_hi : i < 36) : (if i = k / 8 then word (x % 2 ^ (8 * k)) (k / 8) ||| byt x k * 2 ^ (8 * (k % 8)) else word (x % 2 ^ (8 * k)) i) = word (x % 2 ^ (8 * (k + 1))) i := by
 rw [ju1]
 by_cases e : i = k / 8
 . subst e; rw [if_pos rfl]
 . rw [if_neg e, if_neg e]
def decA : Code := match Tryz.f15.body with
 | some (.seq _ (.seq _ (.seq _ (.seq _ (.seq (.seq _ (.block _ (.rangeFunc _ _ a _))) _))))) => a
 | _ => .ret
def decB : Code := match Tryz.f15.body with
 | some (.seq _ (.seq _ (.seq _ (.seq _ (.seq (.seq _ (.block _ (.rangeFunc _ _ _ a))) _))))) => a
 | _ => .ret
theorem Qj6 {h : AH} {ts : T Value} {l b1 b4 b n k x ze : Nat} {na pl mi : Bool} {sv : Value} (y1 : fr ts 1 = ptr b1) (y4 : fr ts 4 = ptr b4) (hlen : ∀ h', aLen Tryz.prog 23 sv h' = some (nv ((n + 2 : Nat) : Int))) (hkn : k < n) (hn : n ≤ 280) (n1 : b1 ≠ b) (n4 : b4 ≠ b) (m0 : l ≠ b) (m1 : l ≠ b1) (m4 : l ≠ b4)
  (c900 : Arm.Cl h b (accL ⟨x % 2 ^ (8 * k), na, pl, mi, ze⟩)) (c1 : Arm.Cl h b1 [sv]) (c4 : Arm.Cl h b4 [ptr b]) (hl : h.m.get l = some (lpO 135 ts [58, 59] decA decB)) (hll : l < h.next) :
  RX (eRun Tryz.prog (.round l (setAll ts [58, 59] [nv ((n - 1 - k : Nat) : Int), .int .u8 (byt x k : Int)]) 135 decA decB) h) (fun r => r.1 = .bool true /\ Arm.Cl r.2 b (accL ⟨x % 2 ^ (8 * (k + 1)), na, pl, mi, ze⟩) /\ r.2.m.get l = some (lpO 135 ts [58, 59] decA decB) /\ Sm (fun q => q = b ∨ q = l) h r.2) := by
 have hk8 : k / 8 < 36 := by omega
 refine xu1 (P := Tryz.prog) kr kr ?_
 rw [Qx7]
 refine j8 (k := 1) y1 (j8 (k := 4) y4 (q7 (P := Tryz.prog) (q6 (P := Tryz.prog) (L_g 1 kr (q5 (Q4 (q6 (P := Tryz.prog) (L_g 1 kr (q5 ?_)))))))))
 refine ⟨rfl, none, ts, 135, [58, 59], decA, decB, hl, ?_⟩
 obtain ⟨tb, gb, eb⟩ := Sm.putLoop (.loop .busy none ts 135 [58, 59] decA decB) hll
 generalize putLoop h l (.loop .busy none ts 135 [58, 59] decA decB) = hb at tb gb eb ⊢
 replace c900 := c900.sn tb
 replace c1 := c1.sn tb
 replace c4 := c4.sn tb
 have Tb : Sm (fun q => q = b ∨ q = l) h hb := tb.mono fun q hq => .inr hq
 have lb1 := c1.lt
 have lb4 := c4.lt
 refine u3 (P := Tryz.prog) (q7 (P := Tryz.prog) (q6 (P := Tryz.prog) (z9 _ rfl rfl kr (c1.ld (o := 0) kr rfl) (V4 _ rfl rfl kr (hlen _) (L_p (nv ((n + 2 - 3 : Nat) : Int)) rfl (ev_bin (o := _) rfl kr kr (qj2 (a := n + 2) (b := 3) (by omega) (by omega))) (L_g 1 kr (L_p (nv (k : Int)) rfl (ev_bin (o := _) rfl kr kr ((qj2 (a := n + 2 - 3) (b := n - 1 - k) (by omega) (by omega)).trans (by rw [show n + 2 - 3 - (n - 1 - k) = k by omega]))) (L_g 1 kr (q5 (Q4 (u4 (P := Tryz.prog) kr ?_)))))))))))
 refine D_e (e := 19) (l := [0,1,2,3,4,5,6,7,8,9,10,11,12,13,14,15,16,17,18]) (s' := []) kr kr rfl kr z4 (q9 _ rfl rfl kr kr kr (c4.ld (o := 0) kr rfl) (z2 1 kr (U8 (nv ((k / 8 : Nat) : Int)) rfl kr rfl kr (ev_bin (o := _) rfl kr kr (qk0 (b := 7) (by omega))) (z2 3 kr (U0 _ rfl rfl kr kr kr kr (ixA (b := b) (o := 1) (i := k / 8) kr hk8) (q9 _ rfl rfl kr kr kr (c900.ld (o := 1 + k / 8) kr (uk3 hk8)) (z2 1 kr (U8 (uv (byt x k)) rfl kr rfl kr (ev_conv (o := _) rfl kr (Qj9 (zv9 x k))) (z2 1 kr (U8 (nv ((k % 8 : Nat) : Int)) rfl kr rfl kr (ev_bin (o := _) rfl kr kr (qj9 (b := 7))) (U8 (nv ((8 * (k % 8) : Nat) : Int)) rfl kr rfl kr (ev_bin (o := _) rfl kr kr (uq9 (a := 8) (b := k % 8) (by omega))) ?_)))))))))))
 refine U8 (uv (byt x k * 2 ^ (8 * (k % 8)))) rfl kr rfl kr (ev_bin (o := _) rfl kr kr ((zy1 (k := .i64) (s := 8 * (k % 8)) (by omega)).trans (by rw [Nat.mod_eq_of_lt (uu7 x k)]))) (U8 (uv (word (x % 2 ^ (8 * k)) (k / 8) ||| byt x k * 2 ^ (8 * (k % 8)))) rfl kr rfl kr (ev_bin (o := _) rfl kr kr (or_u (qz1 _ _) (uu7 x k))) (z2 3 kr (U0 _ rfl rfl kr kr kr kr (ixA (b := b) (o := 1) (i := k / 8) kr hk8) (z5 ?_))))
 obtain ⟨h107, e107, d107, t107, n107⟩ := c900.store (P := Tryz.prog) (T := 24) (o := (1 + k / 8)) (v := uv (word (x % 2 ^ (8 * k)) (k / 8) ||| byt x k * 2 ^ (8 * (k % 8)))) kr rfl rfl (by rw [Z1]; omega)
 rw [uk2 hk8 (ju2 x k)] at d107
 replace c900 := d107
 have T107 : Sm (fun q => q = b ∨ q = l) h h107 := Tb.tr t107
 have N107 := T107.nx
 refine Q3 _ rfl rfl rfl kr kr (e107) ?_
 refine q5 ⟨rfl, ?_⟩
 refine D_l (l := []) kr kr z4 (z5 ?_)
 have gl : h107.m.get l = some (.loop .busy none ts 135 [58, 59] decA decB) := (t107.get l (by omega) (show ¬ _ = _ by omega)).trans gb
 repeat with_reducible refine Q9 ?_
 refine ⟨rfl, .busy, none, ts, 135, [58, 59], decA, decB, gl, rfl, ?_⟩
 obtain ⟨tz, gz, ez⟩ := Sm.putLoop (h := h107) (l := l) (lpO 135 ts [58, 59] decA decB) (by have := T107.nx; omega)
 exact ⟨c900.sn tz, gz, T107.trans tz fun q hq => .inl (.inr hq)⟩
end
end Go.Proofs.YtjealfplbigphaaGreat
