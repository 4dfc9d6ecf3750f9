/- A part of the walks of profiles. -/
import Derived.Test.YtjhbbdfbngbjcaaGreatDoorYc
namespace Go.Proofs.YtjhbbdfbngbjcaaGreatDoor
noncomputable section
open Go Go.X Go.Arm
theorem owner_ok {h : AH} {F : Nat → Prop} {hi B tb sb mb N : Nat} {VL VS : Option Nat → Value} {L : Lf} {S : Sf} {C : TC} {mt : List (Int × List (Nat × Nat))} {p i : Nat} (H : PT h F tb sb mb VL (VS none) N L C mt) (X : SpL h hi B VS N S) (D : Dn N L S) (A : Bn N L C) (hi' : i < (S p).length) : Arm.Calls Tryz.prog 27 [ptr tb, .agg ⟨[nv (p : Int), nv (i : Int)]⟩] h (fun r => r.1 = .agg ⟨[nv ((owner N L S (p, i)).1 : Int), nv ((owner N L S (p, i)).2 : Int)]⟩ ∧ Sm Nix h r.2) := by
 obtain ⟨x, s, hx, hs, hok, hp, hc⟩ := D.at hi'
 have hB : ∀ q, (L q).length < 1000000000 := fun q => by have := A.all q; omega
 have hN : N < 1000000000 := by have := A.n; omega
 refine Calls_W 60 Tryz.f27 ?_
 have T0 : Sm Nix h h := .refl
 refine W_seq (W_region (L_nwc [nv (p : Int), nv (i : Int)] .ptr rfl rfl kr fun h83 c83 t83 n83 => ?_))
 have T83 := T0.ext t83
 have N83 := T83.nx
 refine L_nwc [nv 0, nv 0] .ptr rfl rfl kr fun h84 c84 t84 n84 => ?_
 replace c83 := c83.ext t84
 have T84 := T83.ext t84
 have N84 := T84.nx
 refine L_nil (W_seq (W_drawn kr (D_e (e := 13) (l := [0,1,2,3,4,5,6,7,8,9,10,11,12]) (s' := []) kr kr rfl kr Rk_nil (NS_b 3 kr (NS_ld _ rfl rfl kr kr kr ((H.ext T84).cl.ld (o := 0) kr rfl) (NS_b 1 kr (NS_ld _ rfl rfl kr kr kr (c83.ld (o := 0) kr rfl) ?_)))))))
 obtain ⟨b3, o3, i3, l3⟩ := (H.ext T84).inp.row (T := 26) (el := 28) kr kr kr hp
 refine NS_ix _ rfl rfl kr kr kr kr (i3) (NS_ld _ rfl rfl kr kr kr (l3) (NS_b 1 kr (NS_ld _ rfl rfl kr kr kr (c83.ld (o := 1) kr rfl) ?_)))
 obtain ⟨b4, o4, i4, l4⟩ := (H.ext T84).inp.ev (T := 28) (el := 59) kr kr hp hx
 refine NS_ix _ rfl rfl kr kr kr kr (i4) (NS_ld _ rfl rfl kr kr kr (ld_l (l := ev6 x) kr l4) (NS_nwc [nv 0, nv 0, nv 0, nv 0, nv 0, .bool false] .ptr rfl kr rfl rfl kr (Rk_1 rfl rfl (Rk_1 rfl rfl (Rk_1 rfl rfl (Rk_ld _ rfl rfl rfl kr ((H.ext (T84.ext (.push h84 _))).cl.ld (o := 0) kr rfl) kr (Rk_1 rfl rfl (Rk_ld _ rfl rfl rfl kr ((c83.ext (.push h84 _)).ld (o := 0) kr rfl) kr (Rk_1 rfl rfl (Rk_ld _ rfl rfl rfl kr (ldx (l3) ((H.ext T84).inp.rowLt (T := 26) (el := 28) kr kr hp i3) (.push h84 _)) kr (Rk_1 rfl rfl (Rk_ld _ rfl rfl rfl kr ((c83.ext (.push h84 _)).ld (o := 1) kr rfl) kr (Rk_1 rfl rfl (Rk_ld _ rfl rfl rfl kr (ldx (ld_l (l := ev6 x) kr l4) ((H.ext T84).inp.evLt (T := 28) (el := 59) kr kr hp hx i4) (.push h84 _)) kr (Rk_1 rfl rfl Rk_nil))))))))))))) fun h85 c85 t85 n85 => ?_))
 replace c83 := c83.ext t85
 replace c84 := c84.ext t85
 have T85 := T84.ext t85
 have N85 := T85.nx
 refine NS_nil ?_
 obtain ⟨h86, e86, d86, t86, n86⟩ := Cl.storeN (P := Tryz.prog) (T := 59) (n := 6) (v := .agg ⟨(ev6 x)⟩) (cs := (ev6 x)) c85 rfl kr rfl (ev6_len _) (List.all_eq_true.1 rfl)
 replace c83 := c83.sn t86
 replace c84 := c84.sn t86
 replace c85 := d86
 have T86 := T85.tr t86
 have N86 := T86.nx
 refine L_st _ rfl rfl rfl kr kr (e86) ?_
 refine L_nil ⟨rfl, ?_⟩
 refine D_l (l := []) kr kr Rk_nil (NS_nil (W_seq (W_seq (W_drawn kr (D_l (l := [0,1,2,3,4,5,6,7,8,9,10,11,12]) kr kr Rk_nil (NS_b 3 kr (NS_ld _ rfl rfl kr kr kr ((H.ext T86).cl.ld (o := 7) kr rfl) (NS_b 1 kr (NS_ld _ rfl rfl kr kr kr (c83.ld (o := 0) kr rfl) ?_)))))))))
 obtain ⟨b1, o1, i1, l1⟩ := (X.ext T86).row (T := 31) (el := 51) kr kr kr hp
 refine NS_ix _ rfl rfl kr kr kr kr (i1) (NS_ld _ rfl rfl kr kr kr (l1) (NS_b 1 kr (NS_ld _ rfl rfl kr kr kr (c83.ld (o := 1) kr rfl) ?_)))
 obtain ⟨b2, o2, i2, l2⟩ := (X.ext T86).sp (T := 51) (el := 55) kr kr hs
 refine NS_ix _ rfl rfl kr kr kr kr (i2) (NS_b 1 kr (NS_ld _ rfl rfl kr kr kr (ld_cell kr (l2 3 (by decide))) (NS_nil (W_block (W_seq (W_region (L_i (s.y) (1) (.bool (decide (s.y = 1))) rfl rfl kr kr rfl (rfl) (L_g 1 kr (L_nil ?_)))))))))
 refine W_cond (decide (s.y = 1)) kr (fun hb => ?_) (fun hb => ?_)
 ·
  have h1 : s.y = 1 := of_decide_eq_true hb
  have hc1 : ∃ q j : Nat, x.p = (q : Int) ∧ q < N ∧ fnd (L q) 1 p x.n = some j ∧ j < (S q).length := by rcases hc with ⟨h0, _⟩ | ⟨_, _, h⟩ | ⟨h2, _⟩ <;> first | exact h | omega
  obtain ⟨q, j, hq, hqN, hj, hjl⟩ := hc1
  have ho : owner N L S (p, i) = (q, j) := by
   unfold owner
   dsimp only
   rw [hx, hs]
   dsimp only
   rw [if_pos h1, hq]
   simp only [Int.toNat_natCast]
   rw [hj]; rfl
  rw [ho]
  refine W_seq (W_drawn kr (D_e (e := 12) (l := [0,1,2,3,4,5,6,7,8,9,10,11]) (s' := []) kr kr rfl kr Rk_nil (NS_b 3 kr (NS_ld _ rfl rfl kr kr kr ((H.ext T86).cl.ld (o := 5) kr rfl) (NS_b 1 kr (NS_ld _ rfl rfl kr kr kr (c85.ld (o := 1) kr rfl) (NS_b 1 kr (NS_ld _ rfl rfl kr kr kr (c83.ld (o := 0) kr rfl) (NS_b 1 kr (NS_ld _ rfl rfl kr kr kr (c85.ld (o := 3) kr rfl) (NS_b 1 kr ?_)))))))))))
  have hlk : aLookup Tryz.prog 87 (.map (some sb)) (k3 (x.p, (p : Int), x.n)) false h86 = some (tupOk false (.agg ⟨[nv (q : Int), nv (j : Int)]⟩) true) := by
   have hg : kget (sendsA 0 ((List.range N).map L)) (x.p, (p : Int), x.n) = some ((q : Int), (j : Int)) := by
    rw [hq, kget_sendsA (p : Int) x.n ((List.range N).map L) 0 q (Nat.zero_le _)]
    have hl : ((List.range N).map L).getD (q - 0) [] = L q := by simp [hqN]
    rw [hl, hj]; rfl
   have := lookSent (H.ext T86).sent (x.p, (p : Int), x.n) false
   rw [hg] at this
   exact this
  refine NS_lk _ rfl rfl kr kr kr kr (hlk) (NS_nil ?_)
  obtain ⟨h87, e87, d87, t87, n87⟩ := c84.sA 91 [nv (q : Int), nv (j : Int)]
  replace c84 := d87
  have T87 := T86.tr t87
  have N87 := T87.nx
  refine L_st _ rfl rfl rfl kr kr (e87) ?_
  refine L_nil ⟨rfl, ?_⟩
  refine D_l (l := []) kr kr Rk_nil (NS_nil (W_ret ?_))
  repeat first | with_reducible refine then_ret ?_ | with_reducible refine blk_ret ?_
  refine done_of (.inl rfl) (evR_c1 kr kr (Cl.allN (n := 2) c84 rfl kr)) ?_
  exact ⟨rfl, T87⟩
 ·
  have h1 : ¬ s.y = 1 := of_decide_eq_false hb
  refine W_seq (W_region (L_i (s.y) (2) (.bool (decide (s.y = 2))) rfl rfl kr kr rfl (rfl) (L_g 1 kr (L_nil ?_))))
  refine W_cond (decide (s.y = 2)) kr (fun hb => ?_) (fun hb => ?_)
  ·
   have h2 : s.y = 2 := of_decide_eq_true hb
   have hc2 : ∃ c, opn L S x.n N = some (some c) ∧ c.2.1 < N ∧ c.2.2 < (S c.2.1).length := by rcases hc with ⟨h0, _⟩ | ⟨h1, _⟩ | ⟨_, _, h⟩ <;> first | exact h | omega
   obtain ⟨c, hcn, _⟩ := hc2
   have ho : owner N L S (p, i) = (c.2.1, c.2.2) := by
    unfold owner
    dsimp only
    rw [hx, hs]
    dsimp only
    rw [if_neg h1, if_pos h2, hcn]
   rw [ho]
   refine W_sg 2 kr (L_ld _ rfl rfl kr (c85.ld (o := 3) kr rfl) (L_c rfl rfl kr (opening_ok (H.ext T86) (X.ext T86) D.g hB hN hcn) ?_))
   rintro v88 h88 ⟨e88, t88⟩
   try dsimp only at e88
   try dsimp only at t88
   subst e88
   replace c84 := c84.ext t88
   have T88 := T86.ext t88
   have N88 := T88.nx
   have M88 := t88.nx
   refine L_g 4 kr (L_nwc [nv 0, nv 0] .ptr rfl rfl kr fun h89 c89 t89 n89 => ?_)
   replace c84 := c84.ext t89
   have T89 := T88.ext t89
   have N89 := T89.nx
   refine L_g 1 kr ?_
   obtain ⟨h90, e90, d90, t90, n90⟩ := c89.sA 91 [nv (c.2.1 : Int), nv (c.2.2 : Int)]
   replace c84 := c84.sn t90
   replace c89 := d90
   have T90 := T89.tr t90
   have N90 := T90.nx
   refine L_st _ rfl rfl rfl kr kr (e90) (L_g 1 kr (L_nil (W_seq (W_region (L_ld _ rfl rfl kr (Cl.allN (n := 2) c89 rfl kr) ?_)))))
   obtain ⟨h91, e91, d91, t91, n91⟩ := c84.sA 91 [nv (c.2.1 : Int), nv (c.2.2 : Int)]
   replace c84 := d91
   have T91 := T90.tr t91
   have N91 := T91.nx
   refine L_st _ rfl rfl rfl kr kr (e91) (L_nil (W_ret ?_))
   repeat first | with_reducible refine then_ret ?_ | with_reducible refine blk_ret ?_
   refine done_of (.inl rfl) (evR_c1 kr kr (Cl.allN (n := 2) c84 rfl kr)) ?_
   exact ⟨rfl, T91⟩
  ·
   have h2 : ¬ s.y = 2 := of_decide_eq_false hb
   have ho : owner N L S (p, i) = (p, i) := by
    unfold owner
    dsimp only
    rw [hx, hs]
    dsimp only
    rw [if_neg h1, if_neg h2]
   rw [ho]
   refine W_skip (W_seq (W_region (L_ld _ rfl rfl kr (Cl.allN (n := 2) c83 rfl kr) ?_)))
   obtain ⟨h92, e92, d92, t92, n92⟩ := c84.sA 91 [nv (p : Int), nv (i : Int)]
   replace c84 := d92
   have T92 := T86.tr t92
   have N92 := T92.nx
   refine L_st _ rfl rfl rfl kr kr (e92) (L_nil (W_ret ?_))
   repeat first | with_reducible refine then_ret ?_ | with_reducible refine blk_ret ?_
   refine done_of (.inl rfl) (evR_c1 kr kr (Cl.allN (n := 2) c84 rfl kr)) ?_
   exact ⟨rfl, T92⟩
def cauV (c : Option (Nat × Nat)) (v : Value) : Prop := match c with
 | some b => v = .tuple ⟨[.agg ⟨[nv (b.1 : Int), nv (b.2 : Int)]⟩, .bool true]⟩
 | none => ∃ u w : Int, v = .tuple ⟨[.agg ⟨[nv u, nv w]⟩, .bool false]⟩
theorem cause_ok {h : AH} {F : Nat → Prop} {hi B tb sb mb N : Nat} {VL VS : Option Nat → Value} {L : Lf} {S : Sf} {C : TC} {mt : List (Int × List (Nat × Nat))} {p i : Nat} (H : PT h F tb sb mb VL (VS none) N L C mt) (X : SpL h hi B VS N S) (D : Dn N L S) (A : Bn N L C) (hi' : i < (S p).length) : Arm.Calls Tryz.prog 22 [ptr tb, .agg ⟨[nv (p : Int), nv (i : Int)]⟩] h (fun r => cauV (cause N L S (p, i)) r.1 ∧ Sm Nix h r.2) := by
 obtain ⟨x, s, hx, hs, hok, hp, hc⟩ := D.at hi'
 have hB : ∀ q, (L q).length < 1000000000 := fun q => by have := A.all q; omega
 have hN : N < 1000000000 := by have := A.n; omega
 have howl := owner_lt D (a := (p, i)) hi'
 have hcau := cause_owner D hs
 have hol := D.g.le (owner N L S (p, i)).1
 have hal := A.all (owner N L S (p, i)).1
 generalize ho : owner N L S (p, i) = o at howl hcau hol hal
 refine Calls_W 34 Tryz.f22 ?_
 have T0 : Sm Nix h h := .refl
 refine W_seq (W_region (L_nwc [nv (p : Int), nv (i : Int)] .ptr rfl rfl kr fun h93 c93 t93 n93 => ?_))
 have T93 := T0.ext t93
 have N93 := T93.nx
 refine L_nwc [nv 0, nv 0] .ptr rfl rfl kr fun h94 c94 t94 n94 => ?_
 replace c93 := c93.ext t94
 have T94 := T93.ext t94
 have N94 := T94.nx
 refine L_g 1 kr (L_nil (W_sg 1 kr (L_ld _ rfl rfl kr (Cl.allN (n := 2) c93 rfl kr) (L_c rfl rfl kr (owner_ok (H.ext T94) (X.ext T94) D A hi') ?_))))
 rintro v95 h95 ⟨e95, t95⟩
 try dsimp only at e95
 try dsimp only at t95
 subst e95
 replace c93 := c93.ext t95
 replace c94 := c94.ext t95
 have T95 := T94.ext t95
 have N95 := T95.nx
 have M95 := t95.nx
 try rw [ho]
 refine L_nwc [nv 0, nv 0] .ptr rfl rfl kr fun h96 c96 t96 n96 => ?_
 replace c93 := c93.ext t96
 replace c94 := c94.ext t96
 have T96 := T95.ext t96
 have N96 := T96.nx
 obtain ⟨h97, e97, d97, t97, n97⟩ := c96.sA 91 [nv (o.1 : Int), nv (o.2 : Int)]
 replace c93 := c93.sn t97
 replace c94 := c94.sn t97
 replace c96 := d97
 have T97 := T96.tr t97
 have N97 := T97.nx
 refine L_st _ rfl rfl rfl kr kr (e97) (L_nil (W_seq (W_seq (W_drawn kr (D_l (l := [0,1,2,3,4,5,6,7,8,9,10,11,12,13]) kr kr Rk_nil (NS_b 3 kr (NS_ld _ rfl rfl kr kr kr ((H.ext T97).cl.ld (o := 7) kr rfl) (NS_b 1 kr (NS_ld _ rfl rfl kr kr kr (c93.ld (o := 0) kr rfl) ?_)))))))))
 obtain ⟨b1, o1, i1, l1⟩ := (X.ext T97).row (T := 31) (el := 51) kr kr kr hp
 refine NS_ix _ rfl rfl kr kr kr kr (i1) (NS_ld _ rfl rfl kr kr kr (l1) (NS_b 1 kr (NS_ld _ rfl rfl kr kr kr (c93.ld (o := 1) kr rfl) ?_)))
 obtain ⟨b2, o2, i2, l2⟩ := (X.ext T97).sp (T := 51) (el := 55) kr kr hs
 refine NS_ix _ rfl rfl kr kr kr kr (i2) (NS_b 1 kr (NS_ld _ rfl rfl kr kr kr (ld_cell kr (l2 3 (by decide))) (NS_i (s.y) (1) (.bool (decide (s.y = 1))) rfl rfl kr kr kr kr rfl (rfl) (NS_nil ?_))))
 refine W_cond (decide (s.y = 1)) kr (fun hb => ?_) (fun hb => ?_)
 ·
  have h1 : s.y = 1 := of_decide_eq_true hb
  refine W_seq (W_region (L_ld _ rfl rfl kr (Cl.allN (n := 2) c96 rfl kr) ?_))
  obtain ⟨h98, e98, d98, t98, n98⟩ := c94.sA 91 [nv (o.1 : Int), nv (o.2 : Int)]
  replace c94 := d98
  have T98 := T97.tr t98
  have N98 := T98.nx
  refine L_st _ rfl rfl rfl kr kr (e98) (L_g 1 kr (L_nil (W_ret ?_)))
  repeat first | with_reducible refine then_ret ?_ | with_reducible refine blk_ret ?_
  refine done_of (.inl rfl) (evR_ct kr kr kr (Cl.allN (n := 2) c94 rfl kr) (w := .bool true) kr) ?_
  refine ⟨?_, T98⟩
  rw [hcau, if_pos h1]
  rfl
 ·
  have h1 : ¬ s.y = 1 := of_decide_eq_false hb
  refine W_skip (W_seq (W_drawn kr (D_e (e := 9) (l := [0,1,2,3,4,5,6,7,8]) (s' := [6,7,8]) kr kr rfl kr Rk_nil (NS_b 1 kr (NS_ld _ rfl rfl kr kr kr (c96.ld (o := 0) kr rfl) (NS_b 1 kr (NS_ld _ rfl rfl kr kr kr (c96.ld (o := 1) kr rfl) (NS_i ((o.2 : Int)) (1) (nv ((o.2 : Int) - 1)) rfl rfl kr kr kr kr rfl (wrap_id (by omega) (by omega)) (NS_b 2 kr (NS_ld _ rfl rfl kr kr kr (c96.ld (o := 1) kr rfl) (NS_i ((o.2 : Int)) (0) (.bool (decide ((0 : Int) < o.2))) rfl rfl kr kr kr kr rfl (rfl) ?_)))))))))))
  refine NS_nil ?_
  obtain ⟨h99, e99, d99, t99, n99⟩ := c94.sA 91 [nv (o.1 : Int), nv ((o.2 : Int) - 1)]
  replace c96 := c96.sn t99
  replace c94 := d99
  have T99 := T97.tr t99
  have N99 := T99.nx
  refine L_st _ rfl rfl rfl kr kr (e99) ?_
  refine L_nil ⟨rfl, ?_⟩
  refine D_l (l := [10]) kr kr (Rk_1 rfl rfl (Rk_ld _ rfl rfl rfl kr (c96.ld (o := 1) kr rfl) kr (Rk_i ((o.2 : Int)) (0) (.bool (decide ((0 : Int) < o.2))) rfl rfl rfl kr kr rfl (rfl) kr Rk_nil))) (NS_b 1 kr (NS_nil (W_ret ?_)))
  repeat first | with_reducible refine then_ret ?_ | with_reducible refine blk_ret ?_
  refine done_of (.inl rfl) (evR_ct kr kr kr (Cl.allN (n := 2) c94 rfl kr) (w := .bool (decide ((0 : Int) < o.2))) kr) ?_
  refine ⟨?_, T99⟩
  rw [hcau, if_neg h1]
  obtain ⟨q, j⟩ := o
  cases j with
  | zero => exact ⟨_, _, rfl⟩
  | succ j =>
   show _ = _
   have e1 : ((j + 1 : Nat) : Int) - 1 = (j : Int) := by omega
   have e2 : decide ((0 : Int) < ((j + 1 : Nat) : Int)) = true := by simp
   dsimp only
   rw [e1, e2]
end
end Go.Proofs.YtjhbbdfbngbjcaaGreatDoor
