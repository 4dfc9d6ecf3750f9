/- A part of the walks of profiles. -/
import Derived.Test.YtjhbbdfbngbjcaaGreatDoorYh
import Derived.Test.YtjhbbdfbngbjcaaGreatDoorYi
namespace Go.Proofs.YtjhbbdfbngbjcaaGreatDoor
noncomputable section
open Go Go.X Go.Arm
set_option maxHeartbeats 2000000 in
theorem rcause_ok {h : AH} {F : Nat → Prop} {hi B tb N : Nat} {VL VS : Option Nat → Value} {L : Lf} {S : Sf} {C : TC} {p i : Nat} (H : RT h F tb VL (VS none) N L C) (X : SpL h hi B VS N S) (D : Dn N L S) (A : Bn N L C) (hi' : i < (S p).length) : Arm.Calls Tryz.prog 26 [ptr tb, .agg ⟨[nv (p : Int), nv (i : Int)]⟩] h (fun r => cauV (cause N L S (p, i)) r.1 ∧ Sm Nix h r.2) := by
 obtain ⟨x, s, hx, hs, hok, hp, hc⟩ := D.at hi'
 have hB : ∀ q, (L q).length < 1000000000 := fun q => by have := A.all q; omega
 have hN : N < 1000000000 := by have := A.n; omega
 have hal := A.all p
 have hDl := D.d p
 have hcau := cause_owner D hs
 refine Calls_W 96 Tryz.f26 ?_
 have T0 : Sm Nix h h := .refl
 refine W_seq (W_region (L_nwc [nv (p : Int), nv (i : Int)] .ptr rfl rfl kr fun h244 c244 t244 n244 => ?_))
 have T244 := T0.ext t244
 have N244 := T244.nx
 refine L_nwc [nv 0, nv 0] .ptr rfl rfl kr fun h245 c245 t245 n245 => ?_
 replace c244 := c244.ext t245
 have T245 := T244.ext t245
 have N245 := T245.nx
 refine L_g 1 kr (L_nil (W_seq (W_drawn kr (D_e (e := 13) (l := [0,1,2,3,4,5,6,7,8,9,10,11,12]) (s' := []) kr kr rfl kr Rk_nil (NS_b 3 kr (NS_ld _ rfl rfl kr kr kr ((H.ext T245).cl.ld (o := 0) kr rfl) (NS_b 1 kr (NS_ld _ rfl rfl kr kr kr (c244.ld (o := 0) kr rfl) ?_))))))))
 obtain ⟨b3, o3, i3, l3⟩ := (H.ext T245).inp.row (T := 22) (el := 27) kr kr kr hp
 refine NS_ix _ rfl rfl kr kr kr kr (i3) (NS_ld _ rfl rfl kr kr kr ((H.ext T245).inp.rowLd (T := 22) (el := 27) kr kr kr hp i3) (NS_b 1 kr (NS_ld _ rfl rfl kr kr kr (c244.ld (o := 1) kr rfl) ?_)))
 obtain ⟨b4, o4, i4, l4⟩ := (H.ext T245).inp.ev (T := 27) (el := 83) kr kr hp hx
 refine NS_ix _ rfl rfl kr kr kr kr (i4) (NS_ld _ rfl rfl kr kr kr (ld_l (l := ev6 x) kr (fun j hj => (H.ext T245).inp.evCell (T := 27) (el := 83) kr kr hp hx i4 hj)) (NS_nwc [nv 0, nv 0, nv 0, nv 0, nv 0, .bool false] .ptr rfl kr rfl rfl kr (Rk_1 rfl rfl (Rk_1 rfl rfl (Rk_1 rfl rfl (Rk_ld _ rfl rfl rfl kr ((H.ext (T245.ext (.push h245 _))).cl.ld (o := 0) kr rfl) kr (Rk_1 rfl rfl (Rk_ld _ rfl rfl rfl kr ((c244.ext (.push h245 _)).ld (o := 0) kr rfl) kr (Rk_1 rfl rfl (Rk_ld _ rfl rfl rfl kr ((H.ext (T245.ext (.push h245 _))).inp.rowLd (T := 22) (el := 27) kr kr kr hp i3) kr (Rk_1 rfl rfl (Rk_ld _ rfl rfl rfl kr ((c244.ext (.push h245 _)).ld (o := 1) kr rfl) kr (Rk_1 rfl rfl (Rk_ld _ rfl rfl rfl kr (ld_l (l := ev6 x) kr (fun j hj => (H.ext (T245.ext (.push h245 _))).inp.evCell (T := 27) (el := 83) kr kr hp hx i4 hj)) kr (Rk_1 rfl rfl Rk_nil))))))))))))) fun h246 c246 t246 n246 => ?_))
 replace c244 := c244.ext t246
 replace c245 := c245.ext t246
 have T246 := T245.ext t246
 have N246 := T246.nx
 refine NS_nil ?_
 obtain ⟨h247, e247, d247, t247, n247⟩ := Cl.storeN (P := Tryz.prog) (T := 83) (n := 6) (v := .agg ⟨(ev6 x)⟩) (cs := (ev6 x)) c246 rfl kr rfl (ev6_len _) (List.all_eq_true.1 rfl)
 replace c244 := c244.sn t247
 replace c245 := c245.sn t247
 replace c246 := d247
 have T247 := T246.tr t247
 have N247 := T247.nx
 refine L_st _ rfl rfl rfl kr kr (e247) ?_
 refine L_nil ⟨rfl, ?_⟩
 refine D_l (l := []) kr kr Rk_nil (NS_nil (W_seq (W_seq (W_drawn kr (D_l (l := [0,1,2,3,4,5,6,7,8,9,10,11,12,13]) kr kr Rk_nil (NS_b 3 kr (NS_ld _ rfl rfl kr kr kr ((H.ext T247).cl.ld (o := 5) kr rfl) (NS_b 1 kr (NS_ld _ rfl rfl kr kr kr (c244.ld (o := 0) kr rfl) ?_)))))))))
 obtain ⟨b1, o1, i1, l1⟩ := (X.ext T247).row (T := 39) (el := 52) kr kr kr hp
 refine NS_ix _ rfl rfl kr kr kr kr (i1) (NS_ld _ rfl rfl kr kr kr ((X.ext T247).rowLd (T := 39) (el := 52) kr kr kr hp i1) (NS_b 1 kr (NS_ld _ rfl rfl kr kr kr (c244.ld (o := 1) kr rfl) ?_)))
 obtain ⟨b2, o2, i2, l2⟩ := (X.ext T247).sp (T := 52) (el := 56) kr kr hs
 refine NS_ix _ rfl rfl kr kr kr kr (i2) (NS_b 1 kr (NS_ld _ rfl rfl kr kr kr (ld_cell kr (SpL.spCell (X.ext T247) (T := 52) (el := 56) kr kr hs i2 (j := 3) (by decide))) (NS_i (s.y) (1) (.bool (decide (s.y = 1))) rfl rfl kr kr kr kr rfl (rfl) (NS_nil ?_))))
 refine W_cond (decide (s.y = 1)) kr (fun hb => ?_) (fun hb => ?_)
 ·
  have h1 : s.y = 1 := of_decide_eq_true hb
  have hc1 : ∃ q j : Nat, x.p = (q : Int) ∧ q < N ∧ fnd (L q) 1 p x.n = some j ∧ j < (S q).length := by rcases hc with ⟨h0, _⟩ | ⟨_, _, h⟩ | ⟨h2, _⟩ <;> first | exact h | omega
  obtain ⟨q, j, hq, hqN, hj, hjl⟩ := hc1
  have ho : owner N L S (p, i) = (q, j) := by
   unfold owner
   dsimp only
   rw [hx, hs]
   dsimp only
   rw [if_pos h1, hq]
   simp only [Int.toNat_natCast]
   rw [hj]; rfl
  have hcv : cause N L S (p, i) = some (q, j) := by rw [hcau, if_pos h1, ho]
  have hfz := fndZ_some hj
  refine W_seq (W_drawn kr (D_e (e := 14) (l := [0,1,2,3,4,5,6,7,8,9,10,11,12,13]) (s' := [0,1]) kr kr rfl kr Rk_nil (NS_b 1 kr (NS_ld _ rfl rfl kr kr kr (c246.ld (o := 1) kr rfl) (NS_b 3 kr (NS_ld _ rfl rfl kr kr kr ((H.ext T247).cl.ld (o := 0) kr rfl) (NS_b 1 kr (NS_ld _ rfl rfl kr kr kr (c246.ld (o := 1) kr rfl) ?_))))))))
  obtain ⟨b6, o6, i6, l6⟩ := (H.ext T247).inp.row (T := 22) (el := 27) kr kr kr hqN
  rw [← hq] at i6
  refine NS_ix _ rfl rfl kr kr kr kr (i6) (NS_ld _ rfl rfl kr kr kr ((H.ext T247).inp.rowLd (T := 22) (el := 27) kr kr kr hqN (hq ▸ i6)) (NS_b 1 kr (NS_ld _ rfl rfl kr kr kr (c244.ld (o := 0) kr rfl) (NS_b 1 kr (NS_ld _ rfl rfl kr kr kr (c246.ld (o := 3) kr rfl) (NS_nil (L_c rfl rfl kr (find_ok 1 (p : Int) x.n ((H.ext T247).inp.r q hqN) (hB q)) ?_)))))))
  rintro v248 h248 ⟨e248, t248⟩
  try dsimp only at e248
  try dsimp only at t248
  subst e248
  replace c245 := c245.ext t248
  replace c246 := c246.ext t248
  have T248 := T247.ext t248
  have N248 := T248.nx
  have M248 := t248.nx
  refine L_nil ⟨rfl, ?_⟩
  refine D_e (e := 16) (l := [15]) (s' := []) kr kr rfl kr (Rk_1 rfl rfl (Rk_ld _ rfl rfl rfl kr (c246.ld (o := 1) kr rfl) kr Rk_nil)) (NS_b 1 kr (NS_nil ?_))
  obtain ⟨h249, e249, d249, t249, n249⟩ := c245.sA 63 [nv x.p, nv (fndZ (L q) 1 p x.n)]
  replace c245 := d249
  have T249 := T248.tr t249
  have N249 := T249.nx
  refine L_st _ rfl rfl rfl kr kr (e249) ?_
  refine L_nil ⟨rfl, ?_⟩
  refine D_l (l := [17]) kr kr Rk_nil (NS_b 1 kr (NS_nil (W_ret ?_)))
  repeat first | with_reducible refine then_ret ?_ | with_reducible refine blk_ret ?_
  refine done_of (.inl rfl) (evR_ct kr kr kr (Cl.allN (n := 2) c245 rfl kr) (w := .bool true) kr) ?_
  refine ⟨?_, T249⟩
  rw [hcv]
  show Value.tuple ⟨[.agg ⟨[nv x.p, nv (fndZ (L q) 1 p x.n)]⟩, .bool true]⟩ = _
  rw [hfz, hq]
 ·
  have h1 : ¬ s.y = 1 := of_decide_eq_false hb
  refine W_skip (W_seq (W_seq (W_drawn kr (D_l (l := [0,1,2,3,4,5,6,7,8,9,10,11,12,13]) kr kr Rk_nil (NS_b 3 kr (NS_ld _ rfl rfl kr kr kr ((H.ext T247).cl.ld (o := 5) kr rfl) (NS_b 1 kr (NS_ld _ rfl rfl kr kr kr (c244.ld (o := 0) kr rfl) ?_))))))))
  obtain ⟨b1, o1, i1, l1⟩ := (X.ext T247).row (T := 39) (el := 52) kr kr kr hp
  refine NS_ix _ rfl rfl kr kr kr kr (i1) (NS_ld _ rfl rfl kr kr kr ((X.ext T247).rowLd (T := 39) (el := 52) kr kr kr hp i1) (NS_b 1 kr (NS_ld _ rfl rfl kr kr kr (c244.ld (o := 1) kr rfl) ?_)))
  obtain ⟨b2, o2, i2, l2⟩ := (X.ext T247).sp (T := 52) (el := 56) kr kr hs
  refine NS_ix _ rfl rfl kr kr kr kr (i2) (NS_b 1 kr (NS_ld _ rfl rfl kr kr kr (ld_cell kr (SpL.spCell (X.ext T247) (T := 52) (el := 56) kr kr hs i2 (j := 3) (by decide))) (NS_i (s.y) (2) (.bool (decide (s.y = 2))) rfl rfl kr kr kr kr rfl (rfl) (NS_nil ?_))))
  refine W_cond (decide (s.y = 2)) kr (fun hb => ?_) (fun hb => ?_)
  ·
   have h2 : s.y = 2 := of_decide_eq_true hb
   have hc2 : ∃ c, opn L S x.n N = some (some c) ∧ c.2.1 < N ∧ c.2.2 < (S c.2.1).length := by rcases hc with ⟨h0, _⟩ | ⟨h1, _⟩ | ⟨_, _, h⟩ <;> first | exact h | omega
   obtain ⟨c, hcn, hcN, hcl2⟩ := hc2
   have hlc := D.g.le c.2.1
   have hac := A.all c.2.1
   have hfc := fndZ_some (D.g.opn x.n N c hcn).2.2.2.1
   have ho : owner N L S (p, i) = (c.2.1, c.2.2) := by
    unfold owner
    dsimp only
    rw [hx, hs]
    dsimp only
    rw [if_neg h1, if_pos h2, hcn]
   have hor : opR (opn L S x.n N) = .tuple ⟨[nv c.1, nv (c.2.1 : Int), .bool true]⟩ := by rw [hcn]; rfl
   obtain ⟨o2, ho2⟩ : ∃ o2, o2 = c.2.2 := ⟨_, rfl⟩
   have hcu : cause N L S (p, i) = match (c.2.1, o2) with | (_, 0) => none | (q, j + 1) => some (q, j) := by
    rw [hcau, if_neg h1, ho, ho2]
    cases c.2.2 <;> rfl
   rw [← ho2] at hfc hcl2
   refine W_sg 2 kr (L_ld _ rfl rfl kr (c246.ld (o := 3) kr rfl) (L_c rfl rfl kr (hor ▸ ropen_ok (no := x.n) (H.ext T247) (X.ext T247) D.g hB hN) ?_))
   rintro v250 h250 ⟨e250, t250⟩
   try dsimp only at e250
   try dsimp only at t250
   subst e250
   replace c244 := c244.ext t250
   replace c245 := c245.ext t250
   replace c246 := c246.ext t250
   have T250 := T247.ext t250
   have N250 := T250.nx
   have M250 := t250.nx
   refine L_g 7 kr (L_nil (W_drawn kr (D_e (e := 10) (l := [0,1,2,3,4,5,6,7,8,9]) (s' := [0]) kr kr rfl kr Rk_nil (NS_b 4 kr (NS_ld _ rfl rfl kr kr kr ((H.ext T250).cl.ld (o := 0) kr rfl) (NS_b 1 kr ?_))))))
   obtain ⟨b7, o7, i7, l7⟩ := (H.ext T250).inp.row (T := 22) (el := 27) kr kr kr hcN
   refine NS_ix _ rfl rfl kr kr kr kr (i7) (NS_ld _ rfl rfl kr kr kr ((H.ext T250).inp.rowLd (T := 22) (el := 27) kr kr kr hcN i7) (NS_b 1 kr (NS_ld _ rfl rfl kr kr kr (c246.ld (o := 3) kr rfl) (NS_nil (L_c rfl rfl kr (hfc ▸ find_ok 3 0 x.n ((H.ext T250).inp.r c.2.1 hcN) (hB c.2.1)) ?_)))))
   rintro v251 h251 ⟨e251, t251⟩
   try dsimp only at e251
   try dsimp only at t251
   subst e251
   replace c244 := c244.ext t251
   replace c245 := c245.ext t251
   have T251 := T250.ext t251
   have N251 := T251.nx
   have M251 := t251.nx
   refine L_nil ⟨rfl, ?_⟩
   refine D_e (e := 12) (l := [11]) (s' := []) kr kr rfl kr (Rk_noRead kr) (NS_b 1 kr (NS_nil ?_))
   obtain ⟨h252, e252, d252, t252, n252⟩ := c244.sA 63 [nv (c.2.1 : Int), nv (o2 : Int)]
   replace c245 := c245.sn t252
   replace c244 := d252
   have T252 := T251.tr t252
   have N252 := T252.nx
   refine L_st _ rfl rfl rfl kr kr (e252) ?_
   refine L_nil ⟨rfl, ?_⟩
   refine D_l (l := []) kr kr Rk_nil (NS_nil (W_seq (W_sg 1 kr (L_ld _ rfl rfl kr (c244.ld (o := 1) kr rfl) (L_i ((o2 : Int)) (0) (.bool (decide ((o2 : Int) = 0))) rfl rfl kr kr rfl (rfl) (L_nil ?_))))))
   refine W_cond (decide ((o2 : Int) = 0)) kr (fun hb => ?_) (fun hb => ?_)
   ·
    have hz : o2 = 0 := by have := of_decide_eq_true hb; omega
    have hcv : cause N L S (p, i) = none := by rw [hcu, hz]
    refine W_seq (W_region (L_g 1 kr ?_))
    obtain ⟨h253, e253, d253, t253, n253⟩ := c245.sA 63 [nv 0, nv 0]
    replace c245 := d253
    have T253 := T252.tr t253
    have N253 := T253.nx
    refine L_st _ rfl rfl rfl kr kr (e253) (L_g 1 kr (L_nil (W_ret ?_)))
    repeat first | with_reducible refine then_ret ?_ | with_reducible refine blk_ret ?_
    refine done_of (.inl rfl) (evR_ct kr kr kr (Cl.allN (n := 2) c245 rfl kr) (w := .bool false) kr) ?_
    refine ⟨?_, T253⟩
    rw [hcv]
    exact ⟨0, 0, rfl⟩
   ·
    have hz : ¬ o2 = 0 := by have := of_decide_eq_false hb; omega
    obtain ⟨j2, hj2⟩ : ∃ j, o2 = j + 1 := ⟨o2 - 1, by omega⟩
    have hcv : cause N L S (p, i) = some (c.2.1, j2) := by rw [hcu, hj2]
    refine W_skip (W_sg 1 kr (L_ld _ rfl rfl kr (c244.ld (o := 0) kr rfl) (L_g 1 kr (L_ld _ rfl rfl kr (c244.ld (o := 1) kr rfl) (L_i ((o2 : Int)) (1) (nv (j2 : Int)) rfl rfl kr kr rfl (show Value.int .i64 (IntKind.i64.wrap ((o2 : Int) - 1)) = nv (j2 : Int) by rw [show ((o2 : Int) - 1) = (j2 : Int) by omega]; exact wrap_id (by omega) (by omega)) (L_g 1 kr ?_))))))
    obtain ⟨h254, e254, d254, t254, n254⟩ := c245.sA 63 [nv (c.2.1 : Int), nv (j2 : Int)]
    replace c245 := d254
    have T254 := T252.tr t254
    have N254 := T254.nx
    refine L_st _ rfl rfl rfl kr kr (e254) (L_g 1 kr (L_nil (W_ret ?_)))
    repeat first | with_reducible refine then_ret ?_ | with_reducible refine blk_ret ?_
    refine done_of (.inl rfl) (evR_ct kr kr kr (Cl.allN (n := 2) c245 rfl kr) (w := .bool true) kr) ?_
    refine ⟨?_, T254⟩
    rw [hcv]
    rfl
  ·
   have h2 : ¬ s.y = 2 := of_decide_eq_false hb
   have ho : owner N L S (p, i) = (p, i) := by
    unfold owner
    dsimp only
    rw [hx, hs]
    dsimp only
    rw [if_neg h1, if_neg h2]
   obtain ⟨o2, ho2⟩ : ∃ o2, o2 = i := ⟨_, rfl⟩
   have hcu : cause N L S (p, i) = match (p, o2) with | (_, 0) => none | (q, j + 1) => some (q, j) := by
    rw [hcau, if_neg h1, ho, ho2]
    cases i <;> rfl
   rw [← ho2] at c244
   refine W_skip (W_seq (W_sg 1 kr (L_ld _ rfl rfl kr (c244.ld (o := 1) kr rfl) (L_i ((o2 : Int)) (0) (.bool (decide ((o2 : Int) = 0))) rfl rfl kr kr rfl (rfl) (L_nil ?_)))))
   refine W_cond (decide ((o2 : Int) = 0)) kr (fun hb => ?_) (fun hb => ?_)
   ·
    have hz : o2 = 0 := by have := of_decide_eq_true hb; omega
    have hcv : cause N L S (p, i) = none := by rw [hcu, hz]
    refine W_seq (W_region (L_g 1 kr ?_))
    obtain ⟨h255, e255, d255, t255, n255⟩ := c245.sA 63 [nv 0, nv 0]
    replace c245 := d255
    have T255 := T247.tr t255
    have N255 := T255.nx
    refine L_st _ rfl rfl rfl kr kr (e255) (L_g 1 kr (L_nil (W_ret ?_)))
    repeat first | with_reducible refine then_ret ?_ | with_reducible refine blk_ret ?_
    refine done_of (.inl rfl) (evR_ct kr kr kr (Cl.allN (n := 2) c245 rfl kr) (w := .bool false) kr) ?_
    refine ⟨?_, T255⟩
    rw [hcv]
    exact ⟨0, 0, rfl⟩
   ·
    have hz : ¬ o2 = 0 := by have := of_decide_eq_false hb; omega
    obtain ⟨j2, hj2⟩ : ∃ j, o2 = j + 1 := ⟨o2 - 1, by omega⟩
    have hcv : cause N L S (p, i) = some (p, j2) := by rw [hcu, hj2]
    refine W_skip (W_sg 1 kr (L_ld _ rfl rfl kr (c244.ld (o := 0) kr rfl) (L_g 1 kr (L_ld _ rfl rfl kr (c244.ld (o := 1) kr rfl) (L_i ((o2 : Int)) (1) (nv (j2 : Int)) rfl rfl kr kr rfl (show Value.int .i64 (IntKind.i64.wrap ((o2 : Int) - 1)) = nv (j2 : Int) by rw [show ((o2 : Int) - 1) = (j2 : Int) by omega]; exact wrap_id (by omega) (by omega)) (L_g 1 kr ?_))))))
    obtain ⟨h256, e256, d256, t256, n256⟩ := c245.sA 63 [nv (p : Int), nv (j2 : Int)]
    replace c245 := d256
    have T256 := T247.tr t256
    have N256 := T256.nx
    refine L_st _ rfl rfl rfl kr kr (e256) (L_g 1 kr (L_nil (W_ret ?_)))
    repeat first | with_reducible refine then_ret ?_ | with_reducible refine blk_ret ?_
    refine done_of (.inl rfl) (evR_ct kr kr kr (Cl.allN (n := 2) c245 rfl kr) (w := .bool true) kr) ?_
    refine ⟨?_, T256⟩
    rw [hcv]
    rfl
end
end Go.Proofs.YtjhbbdfbngbjcaaGreatDoor
