/- A part of the walks of profiles. -/
import Derived.Test.YtjhbbdfbngbjcaaGreatDoorZy
import Derived.Test.YtjhbbdfbngbjcaaGreatDoorZz
namespace Go.Proofs.YtjhbbdfbngbjcaaGreatDoor
noncomputable section
open Go Go.X Go.Arm
set_option maxHeartbeats 2000000 in
theorem formed_ok {h : AH} {F : Nat → Prop} {VL : Option Nat → Value} {N p i : Nat} {L : Lf} {x : TE} (I : TIn h F VL N L) (hlt : p < N) (hx : (L p)[i]? = some x) (hB : ∀ q, (L q).length < 1000000000)
  (hcap : ∀ q, q < N → ∃ a c, VL (some q) = .slice a (L q).length c ∧ (L q).length ≤ c ∧ c < open_) : Arm.Calls Tryz.prog 49 [VL none, nv (p : Int), nv (i : Int)] h (fun r => r.1 = .bool (frm N L p i x) ∧ Sm Nix h r.2) := by
 have hil := (List.getElem?_eq_some_iff.1 hx).1
 have hBp := hB p
 refine Calls_W 92 Tryz.f49 ?_
 have T0 : Sm Nix h h := .refl
 refine W_sg 1 kr (L_nil (W_seq (W_region (L_g 2 kr ?_))))
 obtain ⟨b3, o3, i3, l3⟩ := (I.ext T0).row (T := 22) (el := 27) kr kr kr hlt
 refine L_ix _ rfl rfl kr kr (i3) (L_ld _ rfl rfl kr ((I.ext T0).rowLd (T := 22) (el := 27) kr kr kr hlt i3) (L_g 1 kr ?_))
 obtain ⟨b4, o4, i4, l4⟩ := (I.ext T0).ev (T := 27) (el := 83) kr kr hlt hx
 refine L_ix _ rfl rfl kr kr (i4) (L_ld _ rfl rfl kr (ld_l (l := ev6 x) kr (fun j hj => (I.ext T0).evCell (T := 27) (el := 83) kr kr hlt hx i4 hj)) (L_nwc [nv 0, nv 0, nv 0, nv 0, nv 0, .bool false] .ptr rfl rfl kr fun h166 c166 t166 n166 => ?_))
 have T166 := T0.ext t166
 have N166 := T166.nx
 obtain ⟨h167, e167, d167, t167, n167⟩ := Cl.storeN (P := Tryz.prog) (T := 83) (n := 6) (v := .agg ⟨(ev6 x)⟩) (cs := (ev6 x)) c166 rfl kr rfl (ev6_len _) (List.all_eq_true.1 rfl)
 replace c166 := d167
 have T167 := T166.tr t167
 have N167 := T167.nx
 refine L_st _ rfl rfl rfl kr kr (e167) (L_nil (W_seq ?_))
 rcases peer3 N x with ⟨hp0, hp1, q, hq, hqN⟩ | ⟨hp0, hp1⟩ | hp0
 ·
  refine W_rg 1 kr (L_ld _ rfl rfl kr (c166.ld (o := 1) kr rfl) (L_i (x.p) (0) (.bool true) rfl rfl kr kr rfl (by first | (simp; done) | (simp; omega)) (L_g 2 kr (L_want kr (L_ld _ rfl rfl kr (c166.ld (o := 1) kr rfl) (L_g 1 kr (L_want kr (L_ln _ rfl rfl kr ((I.ext T167).len (T := 22) (el := 27) kr) (L_want kr (L_i (x.p) ((N : Int)) (.bool true) rfl rfl kr kr rfl (by first | (simp; done) | (simp; omega)) ?_))))))))))
  refine L_g 2 kr (L_nil (W_seq (W_sg 1 kr (L_ld _ rfl rfl kr (c166.ld (o := 0) kr rfl) (L_nil (W_block (W_seq (W_region (L_i (x.k) (1) (.bool (decide (x.k = 1))) rfl rfl kr kr rfl (rfl) ?_)))))))))
  refine L_g 1 kr (L_nil ?_)
  refine W_cond (decide (x.k = 1)) kr (fun hb => ?_) (fun hb => ?_)
  ·
   have hk1 : x.k = 1 := of_decide_eq_true hb
   refine W_seq (W_drawn kr (D_e (e := 9) (l := [0,1,2,3,4,5,6,7,8]) (s' := [2,3]) kr kr rfl kr Rk_nil (NS_b 3 kr (NS_ld _ rfl rfl kr kr kr (c166.ld (o := 3) kr rfl) (NS_b 2 kr ?_)))))
   obtain ⟨b3, o3, i3, l3⟩ := (I.ext T167).row (T := 22) (el := 27) kr kr kr hlt
   refine NS_ix _ rfl rfl kr kr kr kr (i3) (NS_ld _ rfl rfl kr kr kr ((I.ext T167).rowLd (T := 22) (el := 27) kr kr kr hlt i3) (NS_b 1 kr (NS_nil (L_want kr (L_c rfl rfl kr (earlier_ok (i := i) ((I.ext T167).r p hlt) hx hBp) ?_)))))
   rintro v168 h168 ⟨e168, t168⟩
   try dsimp only at e168
   try dsimp only at t168
   subst e168
   replace c166 := c166.ext t168
   have T168 := T167.ext t168
   have N168 := T168.nx
   have M168 := t168.nx
   refine L_nil ⟨rfl, ?_⟩
   refine D_l (l := [10,11,12]) kr kr (Rk_1 rfl rfl (Rk_ld _ rfl rfl rfl kr (c166.ld (o := 3) kr rfl) kr Rk_nil)) (NS_i (x.n) (((before ((L p).take i) x : Nat) : Int)) (.bool (decide (x.n = ((before ((L p).take i) x : Nat) : Int)))) rfl rfl kr kr kr kr rfl (rfl) (NS_b 2 kr (NS_nil (W_ret ?_))))
   repeat first | with_reducible refine then_ret ?_ | with_reducible refine blk_ret ?_
   have hres : frm N L p i x = decide (x.n = ((before ((L p).take i) x : Nat) : Int)) := by
    unfold frm
    rw [okE_send hk1 hq hqN, before_send hk1 hq]
    simp [hk1]
   rw [hres]
   refine done_of (v := .bool (decide (x.n = ((before ((L p).take i) x : Nat) : Int)))) (.inl rfl) kr ?_
   exact ⟨rfl, T168⟩
  ·
   have hn1 : ¬ x.k = 1 := of_decide_eq_false hb
   refine W_seq (W_region (L_i (x.k) (2) (.bool (decide (x.k = 2))) rfl rfl kr kr rfl (rfl) (L_g 1 kr (L_nil ?_))))
   refine W_cond (decide (x.k = 2)) kr (fun hb => ?_) (fun hb => ?_)
   ·
    have hk2 : x.k = 2 := of_decide_eq_true hb
    refine W_seq ?_
    rcases hsn : fnd (L q) 1 p x.n with _ | j
    ·
     refine W_drawn kr (D_e (e := 10) (l := [0,1,2,3,4,5,6,7,8,9]) (s' := []) kr kr rfl kr Rk_nil (NS_b 4 kr (NS_ld _ rfl rfl kr kr kr (c166.ld (o := 1) kr rfl) ?_)))
     obtain ⟨b6, o6, i6, l6⟩ := (I.ext T167).row (T := 22) (el := 27) kr kr kr hqN
     rw [← hq] at i6
     refine NS_ix _ rfl rfl kr kr kr kr (i6) (NS_ld _ rfl rfl kr kr kr ((I.ext T167).rowLd (T := 22) (el := 27) kr kr kr hqN (hq ▸ i6)) (NS_b 2 kr (NS_ld _ rfl rfl kr kr kr (c166.ld (o := 3) kr rfl) (NS_nil (L_want kr (L_c rfl rfl kr (find_ok 1 (p : Int) x.n ((I.ext T167).r q hqN) (hB q)) ?_))))))
     rintro v169 h169 ⟨e169, t169⟩
     try dsimp only at e169
     try dsimp only at t169
     subst e169
     have T169 := T167.ext t169
     have N169 := T169.nx
     have M169 := t169.nx
     refine L_nil ⟨rfl, ?_⟩
     refine D_e (e := 24) (l := [11,12,13,14,15,16,17,18,19,20,21,22,23]) (s' := []) kr kr rfl kr Rk_nil (NS_i (fndZ (L q) 1 p x.n) (0) (.bool false) rfl rfl kr kr kr kr rfl (by rw [fndZ_none hsn]; rfl) (NS_b 12 kr (NS_nil (L_not kr kr ?_))))
     refine L_nil ⟨rfl, ?_⟩
     refine D_l (l := [25,26,27]) kr kr Rk_nil (NS_b 3 kr (NS_nil (W_ret ?_)))
     repeat first | with_reducible refine then_ret ?_ | with_reducible refine blk_ret ?_
     have hres : frm N L p i x = false := by
      unfold frm
      rw [hq]
      simp only [Int.toNat_natCast]
      rw [hsn]
      simp [hk2]
     rw [hres]
     refine done_of (v := .bool (false)) (.inl rfl) kr ?_
     exact ⟨rfl, T169⟩
    ·
     refine W_drawn kr (D_e (e := 10) (l := [0,1,2,3,4,5,6,7,8,9]) (s' := []) kr kr rfl kr Rk_nil (NS_b 4 kr (NS_ld _ rfl rfl kr kr kr (c166.ld (o := 1) kr rfl) ?_)))
     obtain ⟨b6, o6, i6, l6⟩ := (I.ext T167).row (T := 22) (el := 27) kr kr kr hqN
     rw [← hq] at i6
     refine NS_ix _ rfl rfl kr kr kr kr (i6) (NS_ld _ rfl rfl kr kr kr ((I.ext T167).rowLd (T := 22) (el := 27) kr kr kr hqN (hq ▸ i6)) (NS_b 2 kr (NS_ld _ rfl rfl kr kr kr (c166.ld (o := 3) kr rfl) (NS_nil (L_want kr (L_c rfl rfl kr (find_ok 1 (p : Int) x.n ((I.ext T167).r q hqN) (hB q)) ?_))))))
     rintro v170 h170 ⟨e170, t170⟩
     try dsimp only at e170
     try dsimp only at t170
     subst e170
     replace c166 := c166.ext t170
     have T170 := T167.ext t170
     have N170 := T170.nx
     have M170 := t170.nx
     refine L_nil ⟨rfl, ?_⟩
     refine D_e (e := 24) (l := [11,12,13,14,15,16,17,18,19,20,21,22,23]) (s' := []) kr kr rfl kr Rk_nil (NS_i (fndZ (L q) 1 p x.n) (0) (.bool true) rfl rfl kr kr kr kr rfl (by rw [fndZ_some hsn]; simp) (NS_b 4 kr ?_))
     obtain ⟨b3, o3, i3, l3⟩ := (I.ext T170).row (T := 22) (el := 27) kr kr kr hlt
     refine NS_ix _ rfl rfl kr kr kr kr (i3) (NS_ld _ rfl rfl kr kr kr ((I.ext T170).rowLd (T := 22) (el := 27) kr kr kr hlt i3) (NS_b 1 kr ?_))
     obtain ⟨v7, e7, G7⟩ := Sd.first_ (P := Tryz.prog) (T := 27) (el := 83) kr kr ((I.ext T170).r p hlt) (Nat.le_of_lt hil) (by omega) (hcap p hlt)
     rw [flat_take ev6 ev6_len] at G7
     have htl : ((L p).take i).length = i := by rw [List.length_take]; omega
     refine NS_sl _ rfl rfl kr kr kr kr kr kr (e7) (NS_b 1 kr (NS_ld _ rfl rfl kr kr kr (c166.ld (o := 1) kr rfl) (NS_b 1 kr (NS_ld _ rfl rfl kr kr kr (c166.ld (o := 3) kr rfl) (NS_nil (L_want kr (L_c rfl rfl kr (find_ok (l := (L p).take i) 2 x.p x.n (by rw [htl]; exact G7) (by rw [htl]; omega)) ?_)))))))
     rintro v171 h171 ⟨e171, t171⟩
     try dsimp only at e171
     try dsimp only at t171
     subst e171
     have T171 := T170.ext t171
     have N171 := T171.nx
     have M171 := t171.nx
     refine L_nil ⟨rfl, ?_⟩
     refine D_l (l := [25,26,27]) kr kr Rk_nil (NS_i (fndZ ((L p).take i) 2 x.p x.n) (0) (.bool (fnd ((L p).take i) 2 x.p x.n).isNone) rfl rfl kr kr kr kr rfl (show Value.bool (decide (fndZ ((L p).take i) 2 x.p x.n < 0)) = _ by rw [fndZ_lt]) (NS_b 2 kr (NS_nil (W_ret ?_))))
     repeat first | with_reducible refine then_ret ?_ | with_reducible refine blk_ret ?_
     have hres : frm N L p i x = (fnd ((L p).take i) 2 x.p x.n).isNone := by
      unfold frm
      rw [okE_recv hk2 hp0 hp1]
      rw [hq]
      simp only [Int.toNat_natCast]
      rw [hsn]
      simp
     rw [hres]
     refine done_of (v := .bool ((fnd ((L p).take i) 2 x.p x.n).isNone)) (.inl rfl) kr ?_
     exact ⟨rfl, T171⟩
   ·
    have hn2 : ¬ x.k = 2 := of_decide_eq_false hb
    refine W_seq (W_region (L_i (x.k) (3) (.bool (decide (x.k = 3))) rfl rfl kr kr rfl (rfl) (L_g 1 kr (L_nil ?_))))
    refine W_cond (decide (x.k = 3)) kr (fun hb => ?_) (fun hb => ?_)
    ·
     have hk3 : x.k = 3 := of_decide_eq_true hb
     refine W_seq (W_drawn kr (D_e (e := 7) (l := [0,1,2,3,4,5,6]) (s' := [0,1]) kr kr rfl kr Rk_nil (NS_b 1 kr (NS_ld _ rfl rfl kr kr kr (c166.ld (o := 3) kr rfl) (NS_b 2 kr ?_)))))
     obtain ⟨b3, o3, i3, l3⟩ := (I.ext T167).row (T := 22) (el := 27) kr kr kr hlt
     refine NS_ix _ rfl rfl kr kr kr kr (i3) (NS_ld _ rfl rfl kr kr kr ((I.ext T167).rowLd (T := 22) (el := 27) kr kr kr hlt i3) (NS_b 1 kr (NS_nil (L_c rfl rfl kr (earlier_ok (i := i) ((I.ext T167).r p hlt) hx hBp) ?_))))
     rintro v172 h172 ⟨e172, t172⟩
     try dsimp only at e172
     try dsimp only at t172
     subst e172
     replace c166 := c166.ext t172
     have T172 := T167.ext t172
     have N172 := T172.nx
     have M172 := t172.nx
     refine L_nil ⟨rfl, ?_⟩
     refine D_l (l := [8,9]) kr kr (Rk_1 rfl rfl (Rk_ld _ rfl rfl rfl kr (c166.ld (o := 3) kr rfl) kr Rk_nil)) (NS_i (x.n) (((before ((L p).take i) x : Nat) : Int)) (.bool (decide (x.n = ((before ((L p).take i) x : Nat) : Int)))) rfl rfl kr kr kr kr rfl (rfl) (NS_b 1 kr (NS_nil (W_ret ?_))))
     repeat first | with_reducible refine then_ret ?_ | with_reducible refine blk_ret ?_
     have hres : frm N L p i x = decide (x.n = ((before ((L p).take i) x : Nat) : Int)) := by
      unfold frm
      rw [okE_meet hk3, before_meet hk3]
      simp [hk3]
     rw [hres]
     refine done_of (v := .bool (decide (x.n = ((before ((L p).take i) x : Nat) : Int)))) (.inl rfl) kr ?_
     exact ⟨rfl, T172⟩
    ·
     have hn3 : ¬ x.k = 3 := of_decide_eq_false hb
     refine W_seq (W_region (L_i (x.k) (4) (.bool (decide (x.k = 4))) rfl rfl kr kr rfl (rfl) (L_g 1 kr (L_nil ?_))))
     refine W_cond (decide (x.k = 4)) kr (fun hb => ?_) (fun hb => ?_)
     ·
      have hk4 : x.k = 4 := of_decide_eq_true hb
      refine W_seq ?_
      by_cases hv0 : 0 ≤ x.v
      ·
       refine W_rg 1 kr (L_ld _ rfl rfl kr (c166.ld (o := 4) kr rfl) (L_i (x.v) (0) (.bool true) rfl rfl kr kr rfl (by simp [hv0]) (L_g 2 kr (L_want kr (L_ld _ rfl rfl kr (c166.ld (o := 4) kr rfl) (L_want kr (L_i (x.v) (1048576) (.bool (decide (x.v ≤ 1048576))) rfl rfl kr kr rfl (rfl) (L_g 2 kr (L_nil (W_ret ?_))))))))))
       repeat first | with_reducible refine then_ret ?_ | with_reducible refine blk_ret ?_
       have hres : frm N L p i x = decide (x.v ≤ 1048576) := by
        unfold frm
        rw [okE_work hk4]
        simp [hk4, hv0]
       rw [hres]
       refine done_of (v := .bool (decide (x.v ≤ 1048576))) (.inl rfl) kr ?_
       exact ⟨rfl, T167⟩
      ·
       refine W_rg 1 kr (L_ld _ rfl rfl kr (c166.ld (o := 4) kr rfl) (L_i (x.v) (0) (.bool false) rfl rfl kr kr rfl (by simp; omega) (L_g 6 kr (L_nil (W_ret ?_)))))
       repeat first | with_reducible refine then_ret ?_ | with_reducible refine blk_ret ?_
       have hres : frm N L p i x = false := by
        unfold frm
        rw [okE_work hk4]
        simp [hv0]
       rw [hres]
       refine done_of (v := .bool (false)) (.inl rfl) kr ?_
       exact ⟨rfl, T167⟩
     ·
      have hn4 : ¬ x.k = 4 := of_decide_eq_false hb
      refine W_skip (W_sg 1 kr (L_nil (W_ret ?_)))
      repeat first | with_reducible refine then_ret ?_ | with_reducible refine blk_ret ?_
      have hres : frm N L p i x = false := by
       unfold frm
       rw [okE_none hn1 hn2 hn3 hn4, Bool.false_and]
      rw [hres]
      refine done_of (v := .bool (false)) (.inl rfl) kr ?_
      exact ⟨rfl, T167⟩
 ·
  refine W_rg 1 kr (L_ld _ rfl rfl kr (c166.ld (o := 1) kr rfl) (L_i (x.p) (0) (.bool true) rfl rfl kr kr rfl (by first | (simp; done) | (simp; omega)) (L_g 2 kr (L_want kr (L_ld _ rfl rfl kr (c166.ld (o := 1) kr rfl) (L_g 1 kr (L_want kr (L_ln _ rfl rfl kr ((I.ext T167).len (T := 22) (el := 27) kr) (L_want kr (L_i (x.p) ((N : Int)) (.bool false) rfl rfl kr kr rfl (by first | (simp; done) | (simp; omega)) ?_))))))))))
  refine L_g 2 kr (L_nil (W_seq (W_sg 1 kr (L_ld _ rfl rfl kr (c166.ld (o := 0) kr rfl) (L_nil (W_block (W_seq (W_region (L_i (x.k) (1) (.bool (decide (x.k = 1))) rfl rfl kr kr rfl (rfl) ?_)))))))))
  refine L_g 1 kr (L_nil ?_)
  refine W_cond (decide (x.k = 1)) kr (fun hb => ?_) (fun hb => ?_)
  ·
   have hk1 : x.k = 1 := of_decide_eq_true hb
   refine W_seq (W_drawn kr (D_e (e := 9) (l := [0,1,2,3,4,5,6,7,8]) (s' := [2,3]) kr kr rfl kr Rk_nil (NS_b 9 kr (NS_nil (L_not kr kr ?_)))))
   refine L_nil ⟨rfl, ?_⟩
   refine D_l (l := [10,11,12]) kr kr (Rk_1 rfl rfl (Rk_nw rfl kr Rk_nil)) (NS_b 3 kr (NS_nil (W_ret ?_)))
   repeat first | with_reducible refine then_ret ?_ | with_reducible refine blk_ret ?_
   have hres : frm N L p i x = false := by
    unfold frm
    rw [okE_peer (.inl hk1) (by omega), Bool.false_and]
   rw [hres]
   refine done_of (v := .bool (false)) (.inl rfl) kr ?_
   exact ⟨rfl, T167⟩
  ·
   have hn1 : ¬ x.k = 1 := of_decide_eq_false hb
   refine W_seq (W_region (L_i (x.k) (2) (.bool (decide (x.k = 2))) rfl rfl kr kr rfl (rfl) (L_g 1 kr (L_nil ?_))))
   refine W_cond (decide (x.k = 2)) kr (fun hb => ?_) (fun hb => ?_)
   ·
    have hk2 : x.k = 2 := of_decide_eq_true hb
    refine W_seq (W_drawn kr (D_e (e := 10) (l := [0,1,2,3,4,5,6,7,8,9]) (s' := []) kr kr rfl kr Rk_nil (NS_b 10 kr (NS_nil (L_not kr kr ?_)))))
    refine L_nil ⟨rfl, ?_⟩
    refine D_e (e := 24) (l := [11,12,13,14,15,16,17,18,19,20,21,22,23]) (s' := []) kr kr rfl kr Rk_nil (NS_b 13 kr (NS_nil (L_not kr kr ?_)))
    refine L_nil ⟨rfl, ?_⟩
    refine D_l (l := [25,26,27]) kr kr Rk_nil (NS_b 3 kr (NS_nil (W_ret ?_)))
    repeat first | with_reducible refine then_ret ?_ | with_reducible refine blk_ret ?_
    have hres : frm N L p i x = false := by
     unfold frm
     rw [okE_peer (.inr hk2) (by omega), Bool.false_and]
    rw [hres]
    refine done_of (v := .bool (false)) (.inl rfl) kr ?_
    exact ⟨rfl, T167⟩
   ·
    have hn2 : ¬ x.k = 2 := of_decide_eq_false hb
    refine W_seq (W_region (L_i (x.k) (3) (.bool (decide (x.k = 3))) rfl rfl kr kr rfl (rfl) (L_g 1 kr (L_nil ?_))))
    refine W_cond (decide (x.k = 3)) kr (fun hb => ?_) (fun hb => ?_)
    ·
     have hk3 : x.k = 3 := of_decide_eq_true hb
     refine W_seq (W_drawn kr (D_e (e := 7) (l := [0,1,2,3,4,5,6]) (s' := [0,1]) kr kr rfl kr Rk_nil (NS_b 1 kr (NS_ld _ rfl rfl kr kr kr (c166.ld (o := 3) kr rfl) (NS_b 2 kr ?_)))))
     obtain ⟨b3, o3, i3, l3⟩ := (I.ext T167).row (T := 22) (el := 27) kr kr kr hlt
     refine NS_ix _ rfl rfl kr kr kr kr (i3) (NS_ld _ rfl rfl kr kr kr ((I.ext T167).rowLd (T := 22) (el := 27) kr kr kr hlt i3) (NS_b 1 kr (NS_nil (L_c rfl rfl kr (earlier_ok (i := i) ((I.ext T167).r p hlt) hx hBp) ?_))))
     rintro v173 h173 ⟨e173, t173⟩
     try dsimp only at e173
     try dsimp only at t173
     subst e173
     replace c166 := c166.ext t173
     have T173 := T167.ext t173
     have N173 := T173.nx
     have M173 := t173.nx
     refine L_nil ⟨rfl, ?_⟩
     refine D_l (l := [8,9]) kr kr (Rk_1 rfl rfl (Rk_ld _ rfl rfl rfl kr (c166.ld (o := 3) kr rfl) kr Rk_nil)) (NS_i (x.n) (((before ((L p).take i) x : Nat) : Int)) (.bool (decide (x.n = ((before ((L p).take i) x : Nat) : Int)))) rfl rfl kr kr kr kr rfl (rfl) (NS_b 1 kr (NS_nil (W_ret ?_))))
     repeat first | with_reducible refine then_ret ?_ | with_reducible refine blk_ret ?_
     have hres : frm N L p i x = decide (x.n = ((before ((L p).take i) x : Nat) : Int)) := by
      unfold frm
      rw [okE_meet hk3, before_meet hk3]
      simp [hk3]
     rw [hres]
     refine done_of (v := .bool (decide (x.n = ((before ((L p).take i) x : Nat) : Int)))) (.inl rfl) kr ?_
     exact ⟨rfl, T173⟩
    ·
     have hn3 : ¬ x.k = 3 := of_decide_eq_false hb
     refine W_seq (W_region (L_i (x.k) (4) (.bool (decide (x.k = 4))) rfl rfl kr kr rfl (rfl) (L_g 1 kr (L_nil ?_))))
     refine W_cond (decide (x.k = 4)) kr (fun hb => ?_) (fun hb => ?_)
     ·
      have hk4 : x.k = 4 := of_decide_eq_true hb
      refine W_seq ?_
      by_cases hv0 : 0 ≤ x.v
      ·
       refine W_rg 1 kr (L_ld _ rfl rfl kr (c166.ld (o := 4) kr rfl) (L_i (x.v) (0) (.bool true) rfl rfl kr kr rfl (by simp [hv0]) (L_g 2 kr (L_want kr (L_ld _ rfl rfl kr (c166.ld (o := 4) kr rfl) (L_want kr (L_i (x.v) (1048576) (.bool (decide (x.v ≤ 1048576))) rfl rfl kr kr rfl (rfl) (L_g 2 kr (L_nil (W_ret ?_))))))))))
       repeat first | with_reducible refine then_ret ?_ | with_reducible refine blk_ret ?_
       have hres : frm N L p i x = decide (x.v ≤ 1048576) := by
        unfold frm
        rw [okE_work hk4]
        simp [hk4, hv0]
       rw [hres]
       refine done_of (v := .bool (decide (x.v ≤ 1048576))) (.inl rfl) kr ?_
       exact ⟨rfl, T167⟩
      ·
       refine W_rg 1 kr (L_ld _ rfl rfl kr (c166.ld (o := 4) kr rfl) (L_i (x.v) (0) (.bool false) rfl rfl kr kr rfl (by simp; omega) (L_g 6 kr (L_nil (W_ret ?_)))))
       repeat first | with_reducible refine then_ret ?_ | with_reducible refine blk_ret ?_
       have hres : frm N L p i x = false := by
        unfold frm
        rw [okE_work hk4]
        simp [hv0]
       rw [hres]
       refine done_of (v := .bool (false)) (.inl rfl) kr ?_
       exact ⟨rfl, T167⟩
     ·
      have hn4 : ¬ x.k = 4 := of_decide_eq_false hb
      refine W_skip (W_sg 1 kr (L_nil (W_ret ?_)))
      repeat first | with_reducible refine then_ret ?_ | with_reducible refine blk_ret ?_
      have hres : frm N L p i x = false := by
       unfold frm
       rw [okE_none hn1 hn2 hn3 hn4, Bool.false_and]
      rw [hres]
      refine done_of (v := .bool (false)) (.inl rfl) kr ?_
      exact ⟨rfl, T167⟩
 ·
  refine W_rg 1 kr (L_ld _ rfl rfl kr (c166.ld (o := 1) kr rfl) (L_i (x.p) (0) (.bool false) rfl rfl kr kr rfl (by simp; omega) (L_g 8 kr (L_nil (W_seq (W_sg 1 kr (L_ld _ rfl rfl kr (c166.ld (o := 0) kr rfl) (L_nil ?_))))))))
  refine W_block (W_seq (W_region (L_i (x.k) (1) (.bool (decide (x.k = 1))) rfl rfl kr kr rfl (rfl) (L_g 1 kr (L_nil ?_)))))
  refine W_cond (decide (x.k = 1)) kr (fun hb => ?_) (fun hb => ?_)
  ·
   have hk1 : x.k = 1 := of_decide_eq_true hb
   refine W_seq (W_drawn kr (D_e (e := 9) (l := [0,1,2,3,4,5,6,7,8]) (s' := [2,3]) kr kr rfl kr Rk_nil (NS_b 9 kr (NS_nil (L_not kr kr ?_)))))
   refine L_nil ⟨rfl, ?_⟩
   refine D_l (l := [10,11,12]) kr kr (Rk_1 rfl rfl (Rk_nw rfl kr Rk_nil)) (NS_b 3 kr (NS_nil (W_ret ?_)))
   repeat first | with_reducible refine then_ret ?_ | with_reducible refine blk_ret ?_
   have hres : frm N L p i x = false := by
    unfold frm
    rw [okE_peer (.inl hk1) (by omega), Bool.false_and]
   rw [hres]
   refine done_of (v := .bool (false)) (.inl rfl) kr ?_
   exact ⟨rfl, T167⟩
  ·
   have hn1 : ¬ x.k = 1 := of_decide_eq_false hb
   refine W_seq (W_region (L_i (x.k) (2) (.bool (decide (x.k = 2))) rfl rfl kr kr rfl (rfl) (L_g 1 kr (L_nil ?_))))
   refine W_cond (decide (x.k = 2)) kr (fun hb => ?_) (fun hb => ?_)
   ·
    have hk2 : x.k = 2 := of_decide_eq_true hb
    refine W_seq (W_drawn kr (D_e (e := 10) (l := [0,1,2,3,4,5,6,7,8,9]) (s' := []) kr kr rfl kr Rk_nil (NS_b 10 kr (NS_nil (L_not kr kr ?_)))))
    refine L_nil ⟨rfl, ?_⟩
    refine D_e (e := 24) (l := [11,12,13,14,15,16,17,18,19,20,21,22,23]) (s' := []) kr kr rfl kr Rk_nil (NS_b 13 kr (NS_nil (L_not kr kr ?_)))
    refine L_nil ⟨rfl, ?_⟩
    refine D_l (l := [25,26,27]) kr kr Rk_nil (NS_b 3 kr (NS_nil (W_ret ?_)))
    repeat first | with_reducible refine then_ret ?_ | with_reducible refine blk_ret ?_
    have hres : frm N L p i x = false := by
     unfold frm
     rw [okE_peer (.inr hk2) (by omega), Bool.false_and]
    rw [hres]
    refine done_of (v := .bool (false)) (.inl rfl) kr ?_
    exact ⟨rfl, T167⟩
   ·
    have hn2 : ¬ x.k = 2 := of_decide_eq_false hb
    refine W_seq (W_region (L_i (x.k) (3) (.bool (decide (x.k = 3))) rfl rfl kr kr rfl (rfl) (L_g 1 kr (L_nil ?_))))
    refine W_cond (decide (x.k = 3)) kr (fun hb => ?_) (fun hb => ?_)
    ·
     have hk3 : x.k = 3 := of_decide_eq_true hb
     refine W_seq (W_drawn kr (D_e (e := 7) (l := [0,1,2,3,4,5,6]) (s' := [0,1]) kr kr rfl kr Rk_nil (NS_b 1 kr (NS_ld _ rfl rfl kr kr kr (c166.ld (o := 3) kr rfl) (NS_b 2 kr ?_)))))
     obtain ⟨b3, o3, i3, l3⟩ := (I.ext T167).row (T := 22) (el := 27) kr kr kr hlt
     refine NS_ix _ rfl rfl kr kr kr kr (i3) (NS_ld _ rfl rfl kr kr kr ((I.ext T167).rowLd (T := 22) (el := 27) kr kr kr hlt i3) (NS_b 1 kr (NS_nil (L_c rfl rfl kr (earlier_ok (i := i) ((I.ext T167).r p hlt) hx hBp) ?_))))
     rintro v174 h174 ⟨e174, t174⟩
     try dsimp only at e174
     try dsimp only at t174
     subst e174
     replace c166 := c166.ext t174
     have T174 := T167.ext t174
     have N174 := T174.nx
     have M174 := t174.nx
     refine L_nil ⟨rfl, ?_⟩
     refine D_l (l := [8,9]) kr kr (Rk_1 rfl rfl (Rk_ld _ rfl rfl rfl kr (c166.ld (o := 3) kr rfl) kr Rk_nil)) (NS_i (x.n) (((before ((L p).take i) x : Nat) : Int)) (.bool (decide (x.n = ((before ((L p).take i) x : Nat) : Int)))) rfl rfl kr kr kr kr rfl (rfl) (NS_b 1 kr (NS_nil (W_ret ?_))))
     repeat first | with_reducible refine then_ret ?_ | with_reducible refine blk_ret ?_
     have hres : frm N L p i x = decide (x.n = ((before ((L p).take i) x : Nat) : Int)) := by
      unfold frm
      rw [okE_meet hk3, before_meet hk3]
      simp [hk3]
     rw [hres]
     refine done_of (v := .bool (decide (x.n = ((before ((L p).take i) x : Nat) : Int)))) (.inl rfl) kr ?_
     exact ⟨rfl, T174⟩
    ·
     have hn3 : ¬ x.k = 3 := of_decide_eq_false hb
     refine W_seq (W_region (L_i (x.k) (4) (.bool (decide (x.k = 4))) rfl rfl kr kr rfl (rfl) (L_g 1 kr (L_nil ?_))))
     refine W_cond (decide (x.k = 4)) kr (fun hb => ?_) (fun hb => ?_)
     ·
      have hk4 : x.k = 4 := of_decide_eq_true hb
      refine W_seq ?_
      by_cases hv0 : 0 ≤ x.v
      ·
       refine W_rg 1 kr (L_ld _ rfl rfl kr (c166.ld (o := 4) kr rfl) (L_i (x.v) (0) (.bool true) rfl rfl kr kr rfl (by simp [hv0]) (L_g 2 kr (L_want kr (L_ld _ rfl rfl kr (c166.ld (o := 4) kr rfl) (L_want kr (L_i (x.v) (1048576) (.bool (decide (x.v ≤ 1048576))) rfl rfl kr kr rfl (rfl) (L_g 2 kr (L_nil (W_ret ?_))))))))))
       repeat first | with_reducible refine then_ret ?_ | with_reducible refine blk_ret ?_
       have hres : frm N L p i x = decide (x.v ≤ 1048576) := by
        unfold frm
        rw [okE_work hk4]
        simp [hk4, hv0]
       rw [hres]
       refine done_of (v := .bool (decide (x.v ≤ 1048576))) (.inl rfl) kr ?_
       exact ⟨rfl, T167⟩
      ·
       refine W_rg 1 kr (L_ld _ rfl rfl kr (c166.ld (o := 4) kr rfl) (L_i (x.v) (0) (.bool false) rfl rfl kr kr rfl (by simp; omega) (L_g 6 kr (L_nil (W_ret ?_)))))
       repeat first | with_reducible refine then_ret ?_ | with_reducible refine blk_ret ?_
       have hres : frm N L p i x = false := by
        unfold frm
        rw [okE_work hk4]
        simp [hv0]
       rw [hres]
       refine done_of (v := .bool (false)) (.inl rfl) kr ?_
       exact ⟨rfl, T167⟩
     ·
      have hn4 : ¬ x.k = 4 := of_decide_eq_false hb
      refine W_skip (W_sg 1 kr (L_nil (W_ret ?_)))
      repeat first | with_reducible refine then_ret ?_ | with_reducible refine blk_ret ?_
      have hres : frm N L p i x = false := by
       unfold frm
       rw [okE_none hn1 hn2 hn3 hn4, Bool.false_and]
      rw [hres]
      refine done_of (v := .bool (false)) (.inl rfl) kr ?_
      exact ⟨rfl, T167⟩
end
end Go.Proofs.YtjhbbdfbngbjcaaGreatDoor
