/- A part of the walks of profiles. -/
import Derived.Test.YtjhbbdfbngbjcaaGreatDoorZu
namespace Go.Proofs.YtjhbbdfbngbjcaaGreatDoor
noncomputable section
open Go Go.X Go.Arm
theorem begin_ok {h : AH} {F : Nat → Prop} {hi B tb sb mb N : Nat} {VL VS : Option Nat → Value} {L : Lf} {S : Sf} {C : TC} {mt : List (Int × List (Nat × Nat))} (H : PT h F tb sb mb VL (VS none) N L C mt) (X : SpL h hi B VS N S) {p i : Nat} (hp : p < N) (hi' : i ≤ (S p).length) (hK : i < 1000000000) :
   Arm.Calls Tryz.prog 82 [ptr tb, .agg ⟨[nv (p : Int), nv (i : Int)]⟩] h (fun r => r.1 = .tuple ⟨[nv (bgn S p i), .bool true]⟩ ∧ Sm Nix h r.2) := by
 by_cases hi0 : i = 0
 · have hv : bgn S p i = 0 := by unfold bgn; rw [if_pos hi0]
   rw [hv]
   refine Calls_W 37 Tryz.f82 ?_
   have T0 : Sm Nix h h := .refl
   refine W_seq (W_region (L_nwc [nv (p : Int), nv (i : Int)] .ptr rfl rfl kr fun h1 c1 t1 n1 => ?_))
   have T1 := T0.ext t1
   have N1 := T1.nx
   refine L_g 2 kr (L_nil (W_seq (W_block (W_sg 1 kr (L_ld _ rfl rfl kr (c1.ld (o := 1) kr rfl) (L_i ((i : Int)) (0) (.bool true) rfl rfl kr kr rfl (by simp [hi0]) (L_g 1 kr (L_nil ?_))))))))
   refine W_cond true kr (fun _ => ?_) (fun e => by cases e)
   refine W_sg 2 kr (L_nil (W_ret ?_))
   repeat first | with_reducible refine then_ret ?_ | with_reducible refine blk_ret ?_
   refine done_of (v := .tuple ⟨[nv 0, .bool true]⟩) (.inl rfl) kr ?_
   exact ⟨rfl, T1⟩
 · obtain ⟨s, hs⟩ : ∃ s, (S p)[i - 1]? = some s := ⟨_, List.getElem?_eq_getElem (by omega)⟩
   have hv : bgn S p i = s.e := by unfold bgn; rw [if_neg hi0, hs]
   rw [hv]
   refine Calls_W 37 Tryz.f82 ?_
   have T0 : Sm Nix h h := .refl
   refine W_seq (W_region (L_nwc [nv (p : Int), nv (i : Int)] .ptr rfl rfl kr fun h2 c2 t2 n2 => ?_))
   have T2 := T0.ext t2
   have N2 := T2.nx
   refine L_g 2 kr (L_nil (W_seq (W_block (W_sg 1 kr (L_ld _ rfl rfl kr (c2.ld (o := 1) kr rfl) (L_i ((i : Int)) (0) (.bool false) rfl rfl kr kr rfl (by simp [hi0]) (L_g 1 kr (L_nil ?_))))))))
   refine W_cond false kr (fun e => by cases e) (fun _ => ?_)
   refine W_seq (W_drawn kr (D_l (l := [0,1,2,3,4,5,6,7,8,9,10,11,12]) kr kr Rk_nil (NS_b 3 kr (NS_ld _ rfl rfl kr kr kr ((H.ext T2).cl.ld (o := 7) kr rfl) (NS_b 1 kr (NS_ld _ rfl rfl kr kr kr (c2.ld (o := 0) kr rfl) ?_))))))
   obtain ⟨b1, o1, i1, l1⟩ := (X.ext T2).row (T := 31) (el := 51) kr kr kr hp
   refine NS_ix _ rfl rfl kr kr kr kr (i1) (NS_ld _ rfl rfl kr kr kr (l1) (NS_ln _ rfl rfl kr kr kr ((X.ext T2).lenR (T := 51) (el := 55) kr p) (NS_b 1 kr (NS_ld _ rfl rfl kr kr kr (c2.ld (o := 1) kr rfl) (NS_i (((S p).length : Int)) ((i : Int)) (.bool false) rfl rfl kr kr kr kr rfl (by first | (simp; done) | (simp; omega)) (NS_b 1 kr (NS_nil ?_)))))))
   refine W_cond false kr (fun e => by cases e) (fun _ => ?_)
   refine W_skip (W_seq (W_drawn kr (D_l (l := [0,1,2,3,4,5,6,7,8,9,10,11,12,13,14,15]) kr kr Rk_nil (NS_b 3 kr (NS_ld _ rfl rfl kr kr kr ((H.ext T2).cl.ld (o := 7) kr rfl) (NS_b 1 kr (NS_ld _ rfl rfl kr kr kr (c2.ld (o := 0) kr rfl) ?_)))))))
   obtain ⟨b1, o1, i1, l1⟩ := (X.ext T2).row (T := 31) (el := 51) kr kr kr hp
   refine NS_ix _ rfl rfl kr kr kr kr (i1) (NS_ld _ rfl rfl kr kr kr (l1) (NS_b 1 kr (NS_ld _ rfl rfl kr kr kr (c2.ld (o := 1) kr rfl) (NS_i ((i : Int)) (1) (nv ((i - 1 : Nat) : Int)) rfl rfl kr kr kr kr rfl (dec_ok hi0 hK) ?_))))
   obtain ⟨b2, o2, i2, l2⟩ := (X.ext T2).sp (T := 51) (el := 55) kr kr hs
   refine NS_ix _ rfl rfl kr kr kr kr (i2) (NS_b 1 kr (NS_ld _ rfl rfl kr kr kr (ld_cell kr (l2 1 (by decide))) (NS_b 2 kr (NS_nil (W_ret ?_)))))
   repeat first | with_reducible refine then_ret ?_ | with_reducible refine blk_ret ?_
   refine done_of (v := .tuple ⟨[nv s.e, .bool true]⟩) (.inl rfl) kr ?_
   exact ⟨rfl, T2⟩
theorem begin_not {h : AH} {F : Nat → Prop} {hi B tb sb mb N : Nat} {VL VS : Option Nat → Value} {L : Lf} {S : Sf} {C : TC} {mt : List (Int × List (Nat × Nat))} (H : PT h F tb sb mb VL (VS none) N L C mt) (X : SpL h hi B VS N S) {p i : Nat} (hp : p < N) (hi' : (S p).length < i) :
  Arm.Calls Tryz.prog 82 [ptr tb, .agg ⟨[nv (p : Int), nv (i : Int)]⟩] h (fun r => r.1 = .tuple ⟨[nv 0, .bool false]⟩ ∧ Sm Nix h r.2) := by
 refine Calls_W 37 Tryz.f82 ?_
 have T0 : Sm Nix h h := .refl
 refine W_seq (W_region (L_nwc [nv (p : Int), nv (i : Int)] .ptr rfl rfl kr fun h3 c3 t3 n3 => ?_))
 have T3 := T0.ext t3
 have N3 := T3.nx
 refine L_g 2 kr (L_nil (W_seq (W_block (W_sg 1 kr (L_ld _ rfl rfl kr (c3.ld (o := 1) kr rfl) (L_i ((i : Int)) (0) (.bool false) rfl rfl kr kr rfl (by simp; omega) (L_g 1 kr (L_nil ?_))))))))
 refine W_cond false kr (fun e => by cases e) (fun _ => ?_)
 refine W_seq (W_drawn kr (D_l (l := [0,1,2,3,4,5,6,7,8,9,10,11,12]) kr kr Rk_nil (NS_b 3 kr (NS_ld _ rfl rfl kr kr kr ((H.ext T3).cl.ld (o := 7) kr rfl) (NS_b 1 kr (NS_ld _ rfl rfl kr kr kr (c3.ld (o := 0) kr rfl) ?_))))))
 obtain ⟨b1, o1, i1, l1⟩ := (X.ext T3).row (T := 31) (el := 51) kr kr kr hp
 refine NS_ix _ rfl rfl kr kr kr kr (i1) (NS_ld _ rfl rfl kr kr kr (l1) (NS_ln _ rfl rfl kr kr kr ((X.ext T3).lenR (T := 51) (el := 55) kr p) (NS_b 1 kr (NS_ld _ rfl rfl kr kr kr (c3.ld (o := 1) kr rfl) (NS_i (((S p).length : Int)) ((i : Int)) (.bool true) rfl rfl kr kr kr kr rfl (by first | (simp; done) | (simp; omega)) (NS_b 1 kr (NS_nil ?_)))))))
 refine W_cond true kr (fun _ => ?_) (fun e => by cases e)
 refine W_sg 2 kr (L_nil (W_ret ?_))
 repeat first | with_reducible refine then_ret ?_ | with_reducible refine blk_ret ?_
 refine done_of (v := .tuple ⟨[nv 0, .bool false]⟩) (.inl rfl) kr ?_
 exact ⟨rfl, T3⟩
end
end Go.Proofs.YtjhbbdfbngbjcaaGreatDoor
