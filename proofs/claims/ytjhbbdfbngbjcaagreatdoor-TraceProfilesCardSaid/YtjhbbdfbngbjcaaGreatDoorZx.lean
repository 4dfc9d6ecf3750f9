/- A part of the walks of profiles. -/
import Derived.Test.YtjhbbdfbngbjcaaGreatDoorZw
namespace Go.Proofs.YtjhbbdfbngbjcaaGreatDoor
noncomputable section
open Go Go.X Go.Arm
theorem starts_ok {h : AH} {tb : Nat} {k : Int} {g : FuncId} (hk : (k = 1 ∧ g = 117) ∨ (k = 4 ∧ g = 118) ∨ (k = 2 ∧ g = 119) ∨ (k = 3 ∧ g = 120)) :
  Arm.Calls Tryz.prog 83 [ptr tb, nv k] h (fun r => r.1 = .func (.func g) ⟨[ptr tb]⟩ ⟨[]⟩ ∧ Sm Nix h r.2) := by
 refine Calls_W 17 Tryz.f83 ?_
 have T0 : Sm Nix h h := .refl
 refine W_sg 1 kr (L_nil (W_seq (W_region (L_nw Al.map .mp rfl rfl kr ?_))))
 have m900 : Mp (h.push (Al.map).obj) h.next nv (fun (v : Value) (y : Value) => v = y) ([] : List (Int × Value)) := Mp.new h
 have t900 : Sm Nix h (h.push (Al.map).obj) := .push h _
 have n900 : (h.push (Al.map).obj).next = h.next + 1 := rfl
 generalize h.push (Al.map).obj = h900 at m900 t900 n900 ⊢
 have T900 := T0.ext t900
 refine L_g 2 kr ?_
 obtain ⟨h901, e901, m901, t901, n901⟩ := m900.update (P := Tryz.prog) (T := 264) (el := 212) kr kNum 1 (v := (.func (.func 117) ⟨[ptr tb]⟩ ⟨[]⟩)) (y := (.func (.func 117) ⟨[ptr tb]⟩ ⟨[]⟩)) rfl
 refine L_in h901 rfl rfl rfl kr kr kr e901 ?_
 have T901 : Sm Nix h h901 := T900.trans t901 (fun x hx => .inr (by have hx : x = h.next := hx; omega))
 refine L_g 2 kr ?_
 obtain ⟨h902, e902, m902, t902, n902⟩ := m901.update (P := Tryz.prog) (T := 264) (el := 212) kr kNum 4 (v := (.func (.func 118) ⟨[ptr tb]⟩ ⟨[]⟩)) (y := (.func (.func 118) ⟨[ptr tb]⟩ ⟨[]⟩)) rfl
 refine L_in h902 rfl rfl rfl kr kr kr e902 ?_
 have T902 : Sm Nix h h902 := T901.trans t902 (fun x hx => .inr (by have hx : x = h.next := hx; omega))
 refine L_g 2 kr ?_
 obtain ⟨h903, e903, m903, t903, n903⟩ := m902.update (P := Tryz.prog) (T := 264) (el := 212) kr kNum 2 (v := (.func (.func 119) ⟨[ptr tb]⟩ ⟨[]⟩)) (y := (.func (.func 119) ⟨[ptr tb]⟩ ⟨[]⟩)) rfl
 refine L_in h903 rfl rfl rfl kr kr kr e903 ?_
 have T903 : Sm Nix h h903 := T902.trans t903 (fun x hx => .inr (by have hx : x = h.next := hx; omega))
 refine L_g 2 kr ?_
 obtain ⟨h904, e904, m904, t904, n904⟩ := m903.update (P := Tryz.prog) (T := 264) (el := 212) kr kNum 3 (v := (.func (.func 120) ⟨[ptr tb]⟩ ⟨[]⟩)) (y := (.func (.func 120) ⟨[ptr tb]⟩ ⟨[]⟩)) rfl
 refine L_in h904 rfl rfl rfl kr kr kr e904 ?_
 have T904 : Sm Nix h h904 := T903.trans t904 (fun x hx => .inr (by have hx : x = h.next := hx; omega))
 refine L_g 2 kr ?_
 have hget : kget (kset (kset (kset (kset ([] : List (Int × Value)) 1 (.func (.func 117) ⟨[ptr tb]⟩ ⟨[]⟩)) 4 (.func (.func 118) ⟨[ptr tb]⟩ ⟨[]⟩)) 2 (.func (.func 119) ⟨[ptr tb]⟩ ⟨[]⟩)) 3 (.func (.func 120) ⟨[ptr tb]⟩ ⟨[]⟩)) k = some (.func (.func g) ⟨[ptr tb]⟩ ⟨[]⟩) := by
  rcases hk with ⟨rfl, rfl⟩ | ⟨rfl, rfl⟩ | ⟨rfl, rfl⟩ | ⟨rfl, rfl⟩ <;> simp [kset, kget]
 have hlk : aLookup Tryz.prog 264 (.map (some h.next)) (nv k) false h904 = some (.func (.func g) ⟨[ptr tb]⟩ ⟨[]⟩) := by
  rcases m904.lookup (P := Tryz.prog) (T := 264) (kt := 3) (el := 212) (z := .nilFunc) kr kNum kr k false with ⟨h1, _⟩ | ⟨v, x, h1, h2, h3⟩
  · rw [hget] at h1; cases h1
  · rw [hget] at h1; cases h1; subst h2; exact h3
 refine L_lk _ rfl rfl kr kr (hlk) (L_g 1 kr (L_nil (W_ret ?_)))
 repeat first | with_reducible refine then_ret ?_ | with_reducible refine blk_ret ?_
 refine done_of (v := .func (.func g) ⟨[ptr tb]⟩ ⟨[]⟩) (.inl rfl) kr ?_
 exact ⟨rfl, T904⟩
theorem send_ok {h : AH} {F : Nat → Prop} {hi B tb sb mb N : Nat} {VL VS : Option Nat → Value} {L : Lf} {S : Sf} {C : TC} {mt : List (Int × List (Nat × Nat))} {p : Nat} {x : TE} (H : PT h F tb sb mb VL (VS none) N L C mt) (_X : SpL h hi B VS N S) :
  Arm.Calls Tryz.prog 117 [ptr tb, nv (p : Int), .agg ⟨ev6 x⟩] h (fun r => r.1 = .tuple ⟨[nv 0, nv C.s, nv 0, .bool true]⟩ ∧ Sm Nix h r.2) := by
 refine Calls_W 15 Tryz.f117 ?_
 have T0 : Sm Nix h h := .refl
 refine W_seq (W_region (L_nwc (ev6 x) .ptr rfl rfl kr fun h15 c15 t15 n15 => ?_))
 have T15 := T0.ext t15
 have N15 := T15.nx
 refine L_g 4 kr (L_nil (W_seq (W_drawn kr (D_l (l := [0,1,2,3,4,5,6,7,8]) kr kr Rk_nil (NS_b 4 kr (NS_ld _ rfl rfl kr kr kr ((H.ext T15).cl.ld (o := 1) kr rfl) (NS_b 4 kr (NS_nil (W_ret ?_)))))))))
 repeat first | with_reducible refine then_ret ?_ | with_reducible refine blk_ret ?_
 refine done_of (v := .tuple ⟨[nv 0, nv C.s, nv 0, .bool true]⟩) (.inl rfl) kr ?_
 exact ⟨rfl, T15⟩
theorem work_ok {h : AH} {F : Nat → Prop} {hi B tb sb mb N : Nat} {VL VS : Option Nat → Value} {L : Lf} {S : Sf} {C : TC} {mt : List (Int × List (Nat × Nat))} {p : Nat} {x : TE} (_H : PT h F tb sb mb VL (VS none) N L C mt) (_X : SpL h hi B VS N S) :
  Arm.Calls Tryz.prog 118 [ptr tb, nv (p : Int), .agg ⟨ev6 x⟩] h (fun r => r.1 = .tuple ⟨[nv 0, nv x.v, nv 0, .bool true]⟩ ∧ Sm Nix h r.2) := by
 refine Calls_W 12 Tryz.f118 ?_
 have T0 : Sm Nix h h := .refl
 refine W_seq (W_region (L_nwc (ev6 x) .ptr rfl rfl kr fun h16 c16 t16 n16 => ?_))
 have T16 := T0.ext t16
 have N16 := T16.nx
 refine L_g 4 kr (L_nil (W_seq (W_drawn kr (D_l (l := [0,1,2,3,4,5]) kr kr Rk_nil (NS_b 1 kr (NS_ld _ rfl rfl kr kr kr (c16.ld (o := 4) kr rfl) (NS_b 4 kr (NS_nil (W_ret ?_)))))))))
 repeat first | with_reducible refine then_ret ?_ | with_reducible refine blk_ret ?_
 refine done_of (v := .tuple ⟨[nv 0, nv x.v, nv 0, .bool true]⟩) (.inl rfl) kr ?_
 exact ⟨rfl, T16⟩
theorem recv_ok {h : AH} {F : Nat → Prop} {hi B tb sb mb N : Nat} {VL VS : Option Nat → Value} {L : Lf} {S : Sf} {C : TC} {mt : List (Int × List (Nat × Nat))} {p : Nat} {x : TE} {q j : Nat} {s : TS} (H : PT h F tb sb mb VL (VS none) N L C mt) (X : SpL h hi B VS N S) (hq : x.p = (q : Int)) (hqN : q < N) (hj : fnd (L q) 1 p x.n = some j) (hs : (S q)[j]? = some s) (u0 : 0 ≤ s.e + C.c) (u1 : s.e + C.c < 4611686018427387904) :
  Arm.Calls Tryz.prog 119 [ptr tb, nv (p : Int), .agg ⟨ev6 x⟩] h (fun r => r.1 = .tuple ⟨[nv (s.e + C.c), nv C.r, nv 1, .bool true]⟩ ∧ Sm Nix h r.2) := by
 have hjl : j < (S q).length := (List.getElem?_eq_some_iff.1 hs).1
 refine Calls_W 58 Tryz.f119 ?_
 have T0 : Sm Nix h h := .refl
 refine W_seq (W_region (L_nwc (ev6 x) .ptr rfl rfl kr fun h17 c17 t17 n17 => ?_))
 have T17 := T0.ext t17
 have N17 := T17.nx
 refine L_g 4 kr (L_nil (W_seq (W_drawn kr (D_e (e := 12) (l := [0,1,2,3,4,5,6,7,8,9,10,11]) (s' := []) kr kr rfl kr Rk_nil (NS_b 3 kr (NS_ld _ rfl rfl kr kr kr ((H.ext T17).cl.ld (o := 5) kr rfl) (NS_b 1 kr (NS_ld _ rfl rfl kr kr kr (c17.ld (o := 1) kr rfl) (NS_b 2 kr (NS_ld _ rfl rfl kr kr kr (c17.ld (o := 3) kr rfl) (NS_b 1 kr ?_)))))))))))
 have hlk : aLookup Tryz.prog 87 (.map (some sb)) (k3 (x.p, (p : Int), x.n)) false h17 = some (tupOk false (.agg ⟨[nv (q : Int), nv (j : Int)]⟩) true) := by
  have hg : kget (sendsA 0 ((List.range N).map L)) (x.p, (p : Int), x.n) = some ((q : Int), (j : Int)) := by
   rw [hq, kget_sendsA (p : Int) x.n ((List.range N).map L) 0 q (Nat.zero_le _)]
   have hl : ((List.range N).map L).getD (q - 0) [] = L q := by simp [hqN]
   rw [hl, hj]; rfl
  have := lookSent (H.ext T17).sent (x.p, (p : Int), x.n) false
  rw [hg] at this
  exact this
 refine NS_lk _ rfl rfl kr kr kr kr (hlk) (NS_nwc [nv 0, nv 0] .ptr rfl kr rfl rfl kr (Rk_1 rfl rfl (Rk_1 rfl rfl (Rk_1 rfl rfl (Rk_ld _ rfl rfl rfl kr ((H.ext (T17.ext (.push h17 _))).cl.ld (o := 5) kr rfl) kr (Rk_1 rfl rfl (Rk_ld _ rfl rfl rfl kr ((c17.ext (.push h17 _)).ld (o := 1) kr rfl) kr (Rk_1 rfl rfl (Rk_1 rfl rfl (Rk_ld _ rfl rfl rfl kr ((c17.ext (.push h17 _)).ld (o := 3) kr rfl) kr (Rk_1 rfl rfl (Rk_lk _ rfl rfl rfl kr kr ((look_ext (.push h17 _) ((H.ext T17).sent.1)).trans (hlk)) kr (Rk_1 rfl rfl Rk_nil)))))))))))) fun h18 c18 t18 n18 => ?_)
 have T18 := T17.ext t18
 have N18 := T18.nx
 refine NS_nil ?_
 obtain ⟨h19, e19, d19, t19, n19⟩ := c18.sA 91 [nv (q : Int), nv (j : Int)]
 replace c18 := d19
 have T19 := T18.tr t19
 have N19 := T19.nx
 refine L_st _ rfl rfl rfl kr kr (e19) ?_
 refine L_nil ⟨rfl, ?_⟩
 refine D_l (l := []) kr kr Rk_nil (NS_nil (W_seq (W_seq (W_drawn kr (D_l (l := [0,1,2,3,4,5,6,7,8,9,10,11]) kr kr Rk_nil (NS_b 3 kr (NS_ld _ rfl rfl kr kr kr ((H.ext T19).cl.ld (o := 7) kr rfl) (NS_b 1 kr (NS_ld _ rfl rfl kr kr kr (c18.ld (o := 0) kr rfl) ?_)))))))))
 obtain ⟨b1, o1, i1, l1⟩ := (X.ext T19).row (T := 31) (el := 51) kr kr kr hqN
 refine NS_ix _ rfl rfl kr kr kr kr (i1) (NS_ld _ rfl rfl kr kr kr (l1) (NS_ln _ rfl rfl kr kr kr ((X.ext T19).lenR (T := 51) (el := 55) kr q) (NS_b 1 kr (NS_ld _ rfl rfl kr kr kr (c18.ld (o := 1) kr rfl) (NS_i (((S q).length : Int)) ((j : Int)) (.bool false) rfl rfl kr kr kr kr rfl (by first | (simp; done) | (simp; omega)) (NS_nil ?_))))))
 refine W_cond false kr (fun e => by cases e) (fun _ => ?_)
 refine W_skip (W_seq (W_drawn kr (D_l (l := [0,1,2,3,4,5,6,7,8,9,10,11,12,13,14,15,16,17,18,19,20,21,22,23,24,25,26,27]) kr kr Rk_nil (NS_b 3 kr (NS_ld _ rfl rfl kr kr kr ((H.ext T19).cl.ld (o := 7) kr rfl) (NS_b 1 kr (NS_ld _ rfl rfl kr kr kr (c18.ld (o := 0) kr rfl) ?_)))))))
 obtain ⟨b1, o1, i1, l1⟩ := (X.ext T19).row (T := 31) (el := 51) kr kr kr hqN
 refine NS_ix _ rfl rfl kr kr kr kr (i1) (NS_ld _ rfl rfl kr kr kr (l1) (NS_b 1 kr (NS_ld _ rfl rfl kr kr kr (c18.ld (o := 1) kr rfl) ?_)))
 obtain ⟨b2, o2, i2, l2⟩ := (X.ext T19).sp (T := 51) (el := 55) kr kr hs
 refine NS_ix _ rfl rfl kr kr kr kr (i2) (NS_b 1 kr (NS_ld _ rfl rfl kr kr kr (ld_cell kr (l2 1 (by decide))) (NS_b 4 kr (NS_ld _ rfl rfl kr kr kr ((H.ext T19).cl.ld (o := 2) kr rfl) (NS_i (s.e) (C.c) (nv (s.e + C.c)) rfl rfl kr kr kr kr rfl (wrap_id (by omega) u1) (NS_b 4 kr (NS_ld _ rfl rfl kr kr kr ((H.ext T19).cl.ld (o := 3) kr rfl) (NS_b 4 kr (NS_nil (W_ret ?_))))))))))
 repeat first | with_reducible refine then_ret ?_ | with_reducible refine blk_ret ?_
 refine done_of (v := .tuple ⟨[nv (s.e + C.c), nv C.r, nv 1, .bool true]⟩) (.inl rfl) kr ?_
 exact ⟨rfl, T19⟩
theorem recv_not {h : AH} {F : Nat → Prop} {hi B tb sb mb N : Nat} {VL VS : Option Nat → Value} {L : Lf} {S : Sf} {C : TC} {mt : List (Int × List (Nat × Nat))} {p : Nat} {x : TE} {q j : Nat} (H : PT h F tb sb mb VL (VS none) N L C mt) (X : SpL h hi B VS N S) (hq : x.p = (q : Int)) (hqN : q < N) (hj : fnd (L q) 1 p x.n = some j) (hs : (S q)[j]? = none) :
  Arm.Calls Tryz.prog 119 [ptr tb, nv (p : Int), .agg ⟨ev6 x⟩] h (fun r => r.1 = .tuple ⟨[nv 0, nv 0, nv 0, .bool false]⟩ ∧ Sm Nix h r.2) := by
 have hjl : (S q).length ≤ j := List.getElem?_eq_none_iff.1 hs
 refine Calls_W 58 Tryz.f119 ?_
 have T0 : Sm Nix h h := .refl
 refine W_seq (W_region (L_nwc (ev6 x) .ptr rfl rfl kr fun h20 c20 t20 n20 => ?_))
 have T20 := T0.ext t20
 have N20 := T20.nx
 refine L_g 4 kr (L_nil (W_seq (W_drawn kr (D_e (e := 12) (l := [0,1,2,3,4,5,6,7,8,9,10,11]) (s' := []) kr kr rfl kr Rk_nil (NS_b 3 kr (NS_ld _ rfl rfl kr kr kr ((H.ext T20).cl.ld (o := 5) kr rfl) (NS_b 1 kr (NS_ld _ rfl rfl kr kr kr (c20.ld (o := 1) kr rfl) (NS_b 2 kr (NS_ld _ rfl rfl kr kr kr (c20.ld (o := 3) kr rfl) (NS_b 1 kr ?_)))))))))))
 have hlk : aLookup Tryz.prog 87 (.map (some sb)) (k3 (x.p, (p : Int), x.n)) false h20 = some (tupOk false (.agg ⟨[nv (q : Int), nv (j : Int)]⟩) true) := by
  have hg : kget (sendsA 0 ((List.range N).map L)) (x.p, (p : Int), x.n) = some ((q : Int), (j : Int)) := by
   rw [hq, kget_sendsA (p : Int) x.n ((List.range N).map L) 0 q (Nat.zero_le _)]
   have hl : ((List.range N).map L).getD (q - 0) [] = L q := by simp [hqN]
   rw [hl, hj]; rfl
  have := lookSent (H.ext T20).sent (x.p, (p : Int), x.n) false
  rw [hg] at this
  exact this
 refine NS_lk _ rfl rfl kr kr kr kr (hlk) (NS_nwc [nv 0, nv 0] .ptr rfl kr rfl rfl kr (Rk_1 rfl rfl (Rk_1 rfl rfl (Rk_1 rfl rfl (Rk_ld _ rfl rfl rfl kr ((H.ext (T20.ext (.push h20 _))).cl.ld (o := 5) kr rfl) kr (Rk_1 rfl rfl (Rk_ld _ rfl rfl rfl kr ((c20.ext (.push h20 _)).ld (o := 1) kr rfl) kr (Rk_1 rfl rfl (Rk_1 rfl rfl (Rk_ld _ rfl rfl rfl kr ((c20.ext (.push h20 _)).ld (o := 3) kr rfl) kr (Rk_1 rfl rfl (Rk_lk _ rfl rfl rfl kr kr ((look_ext (.push h20 _) ((H.ext T20).sent.1)).trans (hlk)) kr (Rk_1 rfl rfl Rk_nil)))))))))))) fun h21 c21 t21 n21 => ?_)
 have T21 := T20.ext t21
 have N21 := T21.nx
 refine NS_nil ?_
 obtain ⟨h22, e22, d22, t22, n22⟩ := c21.sA 91 [nv (q : Int), nv (j : Int)]
 replace c21 := d22
 have T22 := T21.tr t22
 have N22 := T22.nx
 refine L_st _ rfl rfl rfl kr kr (e22) ?_
 refine L_nil ⟨rfl, ?_⟩
 refine D_l (l := []) kr kr Rk_nil (NS_nil (W_seq (W_seq (W_drawn kr (D_l (l := [0,1,2,3,4,5,6,7,8,9,10,11]) kr kr Rk_nil (NS_b 3 kr (NS_ld _ rfl rfl kr kr kr ((H.ext T22).cl.ld (o := 7) kr rfl) (NS_b 1 kr (NS_ld _ rfl rfl kr kr kr (c21.ld (o := 0) kr rfl) ?_)))))))))
 obtain ⟨b1, o1, i1, l1⟩ := (X.ext T22).row (T := 31) (el := 51) kr kr kr hqN
 refine NS_ix _ rfl rfl kr kr kr kr (i1) (NS_ld _ rfl rfl kr kr kr (l1) (NS_ln _ rfl rfl kr kr kr ((X.ext T22).lenR (T := 51) (el := 55) kr q) (NS_b 1 kr (NS_ld _ rfl rfl kr kr kr (c21.ld (o := 1) kr rfl) (NS_i (((S q).length : Int)) ((j : Int)) (.bool true) rfl rfl kr kr kr kr rfl (by first | (simp; done) | (simp; omega)) (NS_nil ?_))))))
 refine W_cond true kr (fun _ => ?_) (fun e => by cases e)
 refine W_sg 4 kr (L_nil (W_ret ?_))
 repeat first | with_reducible refine then_ret ?_ | with_reducible refine blk_ret ?_
 refine done_of (v := .tuple ⟨[nv 0, nv 0, nv 0, .bool false]⟩) (.inl rfl) kr ?_
 exact ⟨rfl, T22⟩
theorem meet_ok {h : AH} {F : Nat → Prop} {hi B tb sb mb N : Nat} {VL VS : Option Nat → Value} {L : Lf} {S : Sf} {C : TC} {mt : List (Int × List (Nat × Nat))} {p : Nat} {x : TE} {a : Int × Nat × Nat} (H : PT h F tb sb mb VL (VS none) N L C mt) (X : SpL h hi B VS N S) (g : Gd N L S) (hB : ∀ q, (L q).length < 1000000000) (hN : N < 1000000000) (ho : opn L S x.n N = some (some a)) :
  Arm.Calls Tryz.prog 120 [ptr tb, nv (p : Int), .agg ⟨ev6 x⟩] h (fun r => r.1 = .tuple ⟨[nv a.1, nv C.m, nv 2, .bool true]⟩ ∧ Sm Nix h r.2) := by
 refine Calls_W 28 Tryz.f120 ?_
 have T0 : Sm Nix h h := .refl
 refine W_seq (W_region (L_nwc (ev6 x) .ptr rfl rfl kr fun h23 c23 t23 n23 => ?_))
 have T23 := T0.ext t23
 have N23 := T23.nx
 refine L_g 4 kr (L_nil (W_sg 2 kr (L_ld _ rfl rfl kr (c23.ld (o := 3) kr rfl) (L_c rfl rfl kr (opening_ok (H.ext T23) (X.ext T23) g hB hN ho) ?_))))
 rintro v24 h24 ⟨e24, t24⟩
 try dsimp only at e24
 try dsimp only at t24
 subst e24
 have T24 := T23.ext t24
 have N24 := T24.nx
 have M24 := t24.nx
 refine L_g 4 kr (L_nwc [nv 0, nv 0] .ptr rfl rfl kr fun h25 c25 t25 n25 => ?_)
 have T25 := T24.ext t25
 have N25 := T25.nx
 refine L_g 1 kr ?_
 obtain ⟨h26, e26, d26, t26, n26⟩ := c25.sA 91 [nv (a.2.1 : Int), nv (a.2.2 : Int)]
 replace c25 := d26
 have T26 := T25.tr t26
 have N26 := T26.nx
 refine L_st _ rfl rfl rfl kr kr (e26) (L_g 1 kr (L_nil (W_seq (W_drawn kr (D_l (l := [0,1,2,3,4,5,6,7,8,9,10]) kr kr Rk_nil (NS_b 5 kr (NS_ld _ rfl rfl kr kr kr ((H.ext T26).cl.ld (o := 4) kr rfl) (NS_b 5 kr (NS_nil (W_ret ?_))))))))))
 repeat first | with_reducible refine then_ret ?_ | with_reducible refine blk_ret ?_
 refine done_of (v := .tuple ⟨[nv a.1, nv C.m, nv 2, .bool true]⟩) (.inl rfl) kr ?_
 exact ⟨rfl, T26⟩
theorem meet_not {h : AH} {F : Nat → Prop} {hi B tb sb mb N : Nat} {VL VS : Option Nat → Value} {L : Lf} {S : Sf} {C : TC} {mt : List (Int × List (Nat × Nat))} {p : Nat} {x : TE}  (H : PT h F tb sb mb VL (VS none) N L C mt) (X : SpL h hi B VS N S) (g : Gd N L S) (hB : ∀ q, (L q).length < 1000000000) (hN : N < 1000000000) (ho : opn L S x.n N = none) :
  Arm.Calls Tryz.prog 120 [ptr tb, nv (p : Int), .agg ⟨ev6 x⟩] h (fun r => r.1 = .tuple ⟨[nv 0, nv C.m, nv 2, .bool false]⟩ ∧ Sm Nix h r.2) := by
 refine Calls_W 28 Tryz.f120 ?_
 have T0 : Sm Nix h h := .refl
 refine W_seq (W_region (L_nwc (ev6 x) .ptr rfl rfl kr fun h27 c27 t27 n27 => ?_))
 have T27 := T0.ext t27
 have N27 := T27.nx
 refine L_g 4 kr (L_nil (W_sg 2 kr (L_ld _ rfl rfl kr (c27.ld (o := 3) kr rfl) (L_c rfl rfl kr (opening_ok (H.ext T27) (X.ext T27) g hB hN ho) ?_))))
 rintro v28 h28 ⟨e28, t28⟩
 try dsimp only at e28
 try dsimp only at t28
 subst e28
 have T28 := T27.ext t28
 have N28 := T28.nx
 have M28 := t28.nx
 refine L_g 4 kr (L_nwc [nv 0, nv 0] .ptr rfl rfl kr fun h29 c29 t29 n29 => ?_)
 have T29 := T28.ext t29
 have N29 := T29.nx
 refine L_g 1 kr ?_
 obtain ⟨h30, e30, d30, t30, n30⟩ := c29.sA 91 [nv 0, nv 0]
 replace c29 := d30
 have T30 := T29.tr t30
 have N30 := T30.nx
 refine L_st _ rfl rfl rfl kr kr (e30) (L_g 1 kr (L_nil (W_seq (W_drawn kr (D_l (l := [0,1,2,3,4,5,6,7,8,9,10]) kr kr Rk_nil (NS_b 5 kr (NS_ld _ rfl rfl kr kr kr ((H.ext T30).cl.ld (o := 4) kr rfl) (NS_b 5 kr (NS_nil (W_ret ?_))))))))))
 repeat first | with_reducible refine then_ret ?_ | with_reducible refine blk_ret ?_
 refine done_of (v := .tuple ⟨[nv 0, nv C.m, nv 2, .bool false]⟩) (.inl rfl) kr ?_
 exact ⟨rfl, T30⟩
end
end Go.Proofs.YtjhbbdfbngbjcaaGreatDoor
