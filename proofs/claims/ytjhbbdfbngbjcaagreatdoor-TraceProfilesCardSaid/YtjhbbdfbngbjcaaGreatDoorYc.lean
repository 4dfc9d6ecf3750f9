/- A part of the walks of profiles. -/
import Derived.Test.YtjhbbdfbngbjcaaGreatDoorZx
import Derived.Test.YtjhbbdfbngbjcaaGreatDoorZu
namespace Go.Proofs.YtjhbbdfbngbjcaaGreatDoor
noncomputable section
open Go Go.X Go.Arm
structure Bn (N : Nat) (L : Lf) (C : TC) : Prop where
 n : N ≤ 64
 len : ∀ p, p < N → (L p).length ≤ 10000
 c : Okc C
 l : Okl N L
theorem Bn.all {N : Nat} {L : Lf} {C : TC} (A : Bn N L C) (q : Nat) : (L q).length ≤ 10000 := by
 by_cases h : q < N
 · exact A.len q h
 · rw [A.l.hi q (by omega)]; exact Nat.zero_le _
theorem Bn.tot {N : Nat} {L : Lf} {C : TC} {S : Sf} (A : Bn N L C) (g : Gd N L S) : tot N S ≤ 640000 := by
 have h1 := tot_small g.le A.len
 have := A.n
 have : N * 10000 ≤ 64 * 10000 := Nat.mul_le_mul_right _ A.n
 omega
theorem go_ok {h : AH} {F : Nat → Prop} {hi B tb sb mb N : Nat} {VL VS : Option Nat → Value} {L : Lf} {S : Sf} {C : TC} {mt : List (Int × List (Nat × Nat))} {p : Nat} {i : Nat} {x : TE} (H : PT h F tb sb mb VL (VS none) N L C mt) (X : SpL h hi B VS N S) (g : Gd N L S) (A : Bn N L C) (_hFB : ∀ b, Tch hi B b → ¬ F b) (hp : p < N) (hx : (L p)[i]? = some x) :
   ∃ fn, (fn = 117 ∨ fn = 119 ∨ fn = 120 ∨ fn = 118) ∧ (∀ h', Sm Nix h h' → Arm.Calls Tryz.prog 83 [ptr tb, nv x.k] h' (fun r => r.1 = .func (.func fn) ⟨[ptr tb]⟩ ⟨[]⟩ ∧ Sm Nix h' r.2)) ∧
     (∀ a, strt N L C S p x = some a → ∀ h', Sm Nix h h' → Arm.Calls Tryz.prog fn [ptr tb, nv (p : Int), .agg ⟨ev6 x⟩] h' (fun r => r.1 = .tuple ⟨[nv a.1, nv a.2.1, nv a.2.2, .bool true]⟩ ∧ Sm Nix h' r.2)) ∧
     (strt N L C S p x = none → ∃ u v w : Int, ∀ h', Sm Nix h h' → Arm.Calls Tryz.prog fn [ptr tb, nv (p : Int), .agg ⟨ev6 x⟩] h' (fun r => r.1 = .tuple ⟨[nv u, nv v, nv w, .bool false]⟩ ∧ Sm Nix h' r.2)) := by
 have hok := A.l.ev p i x hx
 have hB : ∀ q, (L q).length < 1000000000 := fun q => by have := A.all q; omega
 have hN : N < 1000000000 := by have := A.n; omega
 have htot := A.tot g
 have hCc := A.c.c
 rcases okE_k hok with hk | hk | hk | hk
 · refine ⟨117, by simp, fun h' t => starts_ok (.inl ⟨hk, rfl⟩), fun a ha h' t => ?_, fun hn => ?_⟩
   · unfold strt at ha
     rw [if_pos hk] at ha
     cases ha
     exact send_ok (H.ext t) (X.ext t)
   · unfold strt at hn; rw [if_pos hk] at hn; cases hn
 · refine ⟨119, by simp, fun h' t => starts_ok (.inr (.inr (.inl ⟨hk, rfl⟩))), fun a ha h' t => ?_, fun hn => ?_⟩
   all_goals
     unfold okE at hok
     rw [if_neg (by omega), if_pos hk] at hok
     simp [peerOk] at hok
     obtain ⟨q, hq⟩ : ∃ q : Nat, x.p = (q : Int) := ⟨x.p.toNat, by omega⟩
     have hqN : q < N := by omega
     have hsn := A.l.snt p x (List.mem_of_getElem? hx) hk
     obtain ⟨j, hj⟩ := Option.isSome_iff_exists.1 hsn
   · unfold strt at ha
     rw [if_neg (by omega), if_neg (by omega), if_pos hk, hj] at ha
     rw [hq] at hj ha
     simp only [Int.toNat_natCast] at hj ha
     cases hs : (S q)[j]? with
     | none => rw [hs] at ha; cases ha
     | some s =>
       rw [hs] at ha
       cases ha
       have := g.e0 q s (List.mem_of_getElem? hs)
       exact recv_ok (H.ext t) (X.ext t) hq hqN hj hs (by omega) (by omega)
   · unfold strt at hn
     rw [if_neg (by omega), if_neg (by omega), if_pos hk, hj] at hn
     rw [hq] at hj hn
     simp only [Int.toNat_natCast] at hj hn
     cases hs : (S q)[j]? with
     | some s => rw [hs] at hn; cases hn
     | none => exact ⟨0, 0, 0, fun h' t => recv_not (H.ext t) (X.ext t) hq hqN hj hs⟩
 · refine ⟨120, by simp, fun h' t => starts_ok (.inr (.inr (.inr ⟨hk, rfl⟩))), fun a ha h' t => ?_, fun hn => ?_⟩
   · unfold strt at ha
     rw [if_neg (by omega), if_neg (by omega), if_neg (by omega)] at ha
     split at ha
     · rename_i c hc
       cases ha
       exact meet_ok (H.ext t) (X.ext t) g hB hN hc
     · cases ha
   · unfold strt at hn
     rw [if_neg (by omega), if_neg (by omega), if_neg (by omega)] at hn
     cases hc : opn L S x.n N with
     | none => exact ⟨0, C.m, 2, fun h' t => meet_not (H.ext t) (X.ext t) g hB hN hc⟩
     | some c =>
       cases c with
       | some c => rw [hc] at hn; cases hn
       | none =>
        exfalso
        have h6 := opn_one N hc p hp
        unfold fnd at h6
        rw [List.findIdx?_eq_none_iff] at h6
        have := h6 x (List.mem_of_getElem? hx)
        simp [fits, hk] at this
 · refine ⟨118, by simp, fun h' t => starts_ok (.inr (.inl ⟨hk, rfl⟩)), fun a ha h' t => ?_, fun hn => ?_⟩
   · unfold strt at ha
     rw [if_neg (by omega), if_pos hk] at ha
     cases ha
     exact work_ok (H.ext t) (X.ext t)
   · unfold strt at hn; rw [if_neg (by omega), if_pos hk] at hn; cases hn
theorem next_end {h : AH} {F : Nat → Prop} {hi B tb sb mb N : Nat} {VL VS : Option Nat → Value} {L : Lf} {S : Sf} {C : TC} {mt : List (Int × List (Nat × Nat))} {p : Nat} (H : PT h F tb sb mb VL (VS none) N L C mt) (X : SpL h hi B VS N S) (g : Gd N L S) (_A : Bn N L C) (hFB : ∀ b, Tch hi B b → ¬ F b) (hp : p < N) (hl : (L p)[(S p).length]? = none) :
  Arm.Calls Tryz.prog 48 [ptr tb, nv (p : Int)] h (fun r => r.1 = .bool false ∧ Sm Nix h r.2) := by
 have hle : (S p).length = (L p).length := Nat.le_antisymm (g.le p) (List.getElem?_eq_none_iff.1 hl)
 refine Calls_W 98 Tryz.f48 ?_
 have U0 : Sm Nix h h := .refl
 have T0 : Sm (Tch hi B) h h := .refl
 refine W_sg 1 kr (L_nil (W_sg 3 kr (L_ld _ rfl rfl kr ((H.sm T0 hFB).cl.ld (o := 7) kr rfl) (L_g 1 kr ?_))))
 obtain ⟨b1, o1, i1, l1⟩ := (X.ext U0).row (T := 31) (el := 51) kr kr kr hp
 refine L_ix _ rfl rfl kr kr (i1) (L_ld _ rfl rfl kr (l1) (L_ln _ rfl rfl kr ((X.ext U0).lenR (T := 51) (el := 55) kr p) (L_g 1 kr (L_nil (W_seq (W_sg 4 kr (L_ld _ rfl rfl kr ((H.sm T0 hFB).cl.ld (o := 0) kr rfl) (L_g 1 kr ?_))))))))
 obtain ⟨b3, o3, i3, l3⟩ := (H.sm T0 hFB).inp.row (T := 26) (el := 28) kr kr kr hp
 refine L_ix _ rfl rfl kr kr (i3) (L_ld _ rfl rfl kr (l3) (L_ln _ rfl rfl kr ((H.sm T0 hFB).inp.lenR (T := 28) (el := 59) kr hp) (L_i (((S p).length : Int)) (((L p).length : Int)) (.bool true) rfl rfl kr kr rfl (by simp [hle]) (L_nil ?_))))
 refine W_cond true kr (fun _ => ?_) (fun e => by cases e)
 refine W_sg 1 kr (L_nil (W_ret ?_))
 repeat first | with_reducible refine then_ret ?_ | with_reducible refine blk_ret ?_
 refine done_of (v := .bool false) (.inl rfl) kr ?_
 exact ⟨rfl, U0⟩
theorem _root_.Go.Arm.Calls.mono {Q : Program} [Kn Q] {f : FuncId} {args : List Value} {h : AH} {R R' : Value × AH → Prop} (H : Arm.Calls Q f args h R) (k : ∀ r, R r → R' r) : Arm.Calls Q f args h R' := RX_mono H k
theorem next_wait {h : AH} {F : Nat → Prop} {hi B tb sb mb N : Nat} {VL VS : Option Nat → Value} {L : Lf} {S : Sf} {C : TC} {mt : List (Int × List (Nat × Nat))} {p : Nat} {x : TE} (H : PT h F tb sb mb VL (VS none) N L C mt) (X : SpL h hi B VS N S) (g : Gd N L S) (A : Bn N L C) (hFB : ∀ b, Tch hi B b → ¬ F b) (hp : p < N) (hx : (L p)[(S p).length]? = some x) (hn : strt N L C S p x = none) :
  Arm.Calls Tryz.prog 48 [ptr tb, nv (p : Int)] h (fun r => r.1 = .bool false ∧ Sm Nix h r.2) := by
 have hlt := (List.getElem?_eq_some_iff.1 hx).1
 have hBp := A.all p
 refine Calls_W 98 Tryz.f48 ?_
 have U0 : Sm Nix h h := .refl
 have T0 : Sm (Tch hi B) h h := .refl
 refine W_sg 1 kr (L_nil (W_sg 3 kr (L_ld _ rfl rfl kr ((H.sm T0 hFB).cl.ld (o := 7) kr rfl) (L_g 1 kr ?_))))
 obtain ⟨b1, o1, i1, l1⟩ := (X.ext U0).row (T := 31) (el := 51) kr kr kr hp
 refine L_ix _ rfl rfl kr kr (i1) (L_ld _ rfl rfl kr (l1) (L_ln _ rfl rfl kr ((X.ext U0).lenR (T := 51) (el := 55) kr p) (L_g 1 kr (L_nil (W_seq (W_sg 4 kr (L_ld _ rfl rfl kr ((H.sm T0 hFB).cl.ld (o := 0) kr rfl) (L_g 1 kr ?_))))))))
 obtain ⟨b3, o3, i3, l3⟩ := (H.sm T0 hFB).inp.row (T := 26) (el := 28) kr kr kr hp
 refine L_ix _ rfl rfl kr kr (i3) (L_ld _ rfl rfl kr (l3) (L_ln _ rfl rfl kr ((H.sm T0 hFB).inp.lenR (T := 28) (el := 59) kr hp) (L_i (((S p).length : Int)) (((L p).length : Int)) (.bool false) rfl rfl kr kr rfl (by simp; omega) (L_nil ?_))))
 refine W_cond false kr (fun e => by cases e) (fun _ => ?_)
 refine W_skip (W_sg 3 kr (L_ld _ rfl rfl kr ((H.sm T0 hFB).cl.ld (o := 0) kr rfl) (L_g 1 kr ?_)))
 obtain ⟨b3, o3, i3, l3⟩ := (H.sm T0 hFB).inp.row (T := 26) (el := 28) kr kr kr hp
 refine L_ix _ rfl rfl kr kr (i3) (L_ld _ rfl rfl kr (l3) (L_g 1 kr ?_))
 obtain ⟨b4, o4, i4, l4⟩ := (H.sm T0 hFB).inp.ev (T := 28) (el := 59) kr kr hp hx
 refine L_ix _ rfl rfl kr kr (i4) (L_ld _ rfl rfl kr (ld_l (l := ev6 x) kr l4) (L_nwc [nv 0, nv 0, nv 0, nv 0, nv 0, .bool false] .ptr rfl rfl kr fun h62 c62 t62 n62 => ?_))
 have T62 := T0.ext t62
 have U62 := U0.ext t62
 have N62 := T62.nx
 have NU62 := U62.nx
 obtain ⟨h63, e63, d63, t63, n63⟩ := Cl.storeN (P := Tryz.prog) (T := 59) (n := 6) (v := .agg ⟨(ev6 x)⟩) (cs := (ev6 x)) c62 rfl kr rfl (ev6_len _) (List.all_eq_true.1 rfl)
 replace c62 := d63
 have T63 := T62.tr t63
 have U63 := U62.tr t63
 have N63 := T63.nx
 have NU63 := U63.nx
 refine L_st _ rfl rfl rfl kr kr (e63) (L_nil (W_sg 4 kr (L_c rfl rfl kr (begin_ok (H.sm T63 hFB) (X.ext U63) hp (Nat.le_refl _) (by omega)) ?_)))
 rintro v64 h64 ⟨e64, t64⟩
 try dsimp only at e64
 try dsimp only at t64
 subst e64
 replace c62 := c62.ext t64
 have T64 := T63.ext t64
 have U64 := U63.ext t64
 have N64 := T64.nx
 have NU64 := U64.nx
 have M64 := t64.nx
 refine L_g 5 kr (L_nil (W_seq (W_drawn kr (D_e (e := 3) (l := [0,1,2,4,5]) (s' := [4,5]) kr kr rfl kr Rk_nil (NS_b 2 kr (NS_ld _ rfl rfl kr kr kr (c62.ld (o := 0) kr rfl) (NS_b 1 kr (NS_ld _ rfl rfl kr kr kr (Cl.allN (n := 6) c62 (ev6_len _) kr) (NS_nil ?_)))))))))
 obtain ⟨fn, hfn, go1, go2, go3⟩ := go_ok H X g A hFB hp hx
 obtain ⟨u, v, w, go3⟩ := go3 hn
 refine L_c rfl rfl kr (go1 _ U64) ?_
 rintro v65 h65 ⟨e65, t65⟩
 try dsimp only at e65
 try dsimp only at t65
 subst e65
 replace c62 := c62.ext t65
 have T65 := T64.ext t65
 have U65 := U64.ext t65
 have N65 := T65.nx
 have NU65 := U65.nx
 have M65 := t65.nx
 refine L_nil ⟨rfl, ?_⟩
 refine D_e (e := 6) (l := []) (s' := []) kr kr rfl kr (Rk_1 rfl rfl (Rk_ld _ rfl rfl rfl kr (Cl.allN (n := 6) c62 (ev6_len _) kr) kr Rk_nil)) (NS_nil (L_c rfl rfl (by rcases hfn with rfl | rfl | rfl | rfl <;> kernel_rfl) (go3 _ U65) ?_))
 rintro v66 h66 ⟨e66, t66⟩
 try dsimp only at e66
 try dsimp only at t66
 subst e66
 have T66 := T65.ext t66
 have U66 := U65.ext t66
 have N66 := T66.nx
 have NU66 := U66.nx
 have M66 := t66.nx
 refine L_nil ⟨rfl, ?_⟩
 refine D_l (l := [7,8,9,10,11,12,13,14,15]) kr kr Rk_nil (NS_b 9 kr (NS_nil (W_seq (W_sg 2 kr (L_nil ?_)))))
 refine W_cond true kr (fun _ => ?_) (fun e => by cases e)
 refine W_sg 1 kr (L_nil (W_ret ?_))
 repeat first | with_reducible refine then_ret ?_ | with_reducible refine blk_ret ?_
 refine done_of (v := .bool false) (.inl rfl) kr ?_
 exact ⟨rfl, U66⟩
end
end Go.Proofs.YtjhbbdfbngbjcaaGreatDoor
