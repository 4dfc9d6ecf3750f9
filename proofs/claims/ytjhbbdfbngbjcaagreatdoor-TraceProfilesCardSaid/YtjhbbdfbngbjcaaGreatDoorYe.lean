/- A part of the walks of profiles. -/
import Derived.Test.YtjhbbdfbngbjcaaGreatDoorYb
import Derived.Test.YtjhbbdfbngbjcaaGreatDoorYd
namespace Go.Proofs.YtjhbbdfbngbjcaaGreatDoor
noncomputable section
open Go Go.X Go.Arm
theorem sp4_of {b fr co : Int} {a : Int × Int × Int} (h1 : fr = b + max 0 (a.1 - b)) (h2 : a.2.1 = co) : sp4 (spanOf b a) = [nv b, nv (fr + co), nv (fr - b), nv (if fr - b = 0 then 0 else a.2.2)] := by
 unfold sp4 spanOf
 dsimp only
 have e1 : max 0 (a.1 - b) = fr - b := by omega
 have e2 : b + (fr - b) + co = fr + co := by omega
 rw [e1, h2, e2]
 by_cases h0 : fr - b = 0
 · rw [if_neg (by omega), if_pos h0]
 · rw [if_pos (by omega), if_neg h0]
theorem rnext_end {h : AH} {F : Nat → Prop} {hi B tb N : Nat} {VL VS : Option Nat → Value} {L : Lf} {S : Sf} {C : TC} {p : Nat} (H : RT h F tb VL (VS none) N L C) (X : SpL h hi B VS N S) (g : Gd N L S) (_A : Bn N L C) (hFB : ∀ b, Tch hi B b → ¬ F b) (hp : p < N) (hl : (L p)[(S p).length]? = none) : Arm.Calls Tryz.prog 50 [ptr tb, nv (p : Int)] h (fun r => r.1 = .bool false ∧ Sm Nix h r.2) := by
 have hle : (S p).length = (L p).length := Nat.le_antisymm (g.le p) (List.getElem?_eq_none_iff.1 hl)
 refine Calls_W 162 Tryz.f50 ?_
 have U0 : Sm Nix h h := .refl
 have T0 : Sm (Tch hi B) h h := .refl
 refine W_sg 1 kr (L_nil (W_sg 3 kr (L_ld _ rfl rfl kr ((H.sm T0 hFB).cl.ld (o := 5) kr rfl) (L_g 1 kr ?_))))
 obtain ⟨b1, o1, i1, l1⟩ := (X.ext U0).row (T := 39) (el := 52) kr kr kr hp
 refine L_ix _ rfl rfl kr kr (i1) (L_ld _ rfl rfl kr ((X.ext U0).rowLd (T := 39) (el := 52) kr kr kr hp i1) (L_ln _ rfl rfl kr ((X.ext U0).lenR (T := 52) (el := 56) kr p) (L_g 1 kr (L_nil (W_seq (W_sg 4 kr (L_ld _ rfl rfl kr ((H.sm T0 hFB).cl.ld (o := 0) kr rfl) (L_g 1 kr ?_))))))))
 obtain ⟨b3, o3, i3, l3⟩ := (H.sm T0 hFB).inp.row (T := 22) (el := 27) kr kr kr hp
 refine L_ix _ rfl rfl kr kr (i3) (L_ld _ rfl rfl kr ((H.sm T0 hFB).inp.rowLd (T := 22) (el := 27) kr kr kr hp i3) (L_ln _ rfl rfl kr ((H.sm T0 hFB).inp.lenR (T := 27) (el := 83) kr hp) (L_i (((S p).length : Int)) (((L p).length : Int)) (.bool true) rfl rfl kr kr rfl (by simp [hle]) (L_nil ?_))))
 refine W_cond true kr (fun _ => ?_) (fun e => by cases e)
 refine W_sg 1 kr (L_nil (W_ret ?_))
 repeat first | with_reducible refine then_ret ?_ | with_reducible refine blk_ret ?_
 refine done_of (v := .bool false) (.inl rfl) kr ?_
 exact ⟨rfl, U0⟩
set_option maxHeartbeats 2000000 in
theorem rnext_wait {h : AH} {F : Nat → Prop} {hi B tb N : Nat} {VL VS : Option Nat → Value} {L : Lf} {S : Sf} {C : TC} {p : Nat} {x : TE} (H : RT h F tb VL (VS none) N L C) (X : SpL h hi B VS N S) (g : Gd N L S) (A : Bn N L C) (hFB : ∀ b, Tch hi B b → ¬ F b) (hp : p < N) (hx : (L p)[(S p).length]? = some x) (hn : strt N L C S p x = none) : Arm.Calls Tryz.prog 50 [ptr tb, nv (p : Int)] h (fun r => r.1 = .bool false ∧ Sm Nix h r.2) := by
 have hlt := (List.getElem?_eq_some_iff.1 hx).1
 have hBp := A.all p
 have hok := A.l.ev p _ x hx
 have hk4 := okE_k hok
 have hB9 : ∀ q, (L q).length < 1000000000 := fun q => by have := A.all q; omega
 have hN9 : N < 1000000000 := by have := A.n; omega
 have hb1 := g.bgn p (S p).length
 have htot := A.tot g
 have hCc := A.c.c
 have hCr := A.c.r
 have hCs := A.c.s
 have hCm := A.c.m
 refine Calls_W 162 Tryz.f50 ?_
 have U0 : Sm Nix h h := .refl
 have T0 : Sm (Tch hi B) h h := .refl
 refine W_sg 1 kr (L_nil (W_sg 3 kr (L_ld _ rfl rfl kr ((H.sm T0 hFB).cl.ld (o := 5) kr rfl) (L_g 1 kr ?_))))
 obtain ⟨b1, o1, i1, l1⟩ := (X.ext U0).row (T := 39) (el := 52) kr kr kr hp
 refine L_ix _ rfl rfl kr kr (i1) (L_ld _ rfl rfl kr ((X.ext U0).rowLd (T := 39) (el := 52) kr kr kr hp i1) (L_ln _ rfl rfl kr ((X.ext U0).lenR (T := 52) (el := 56) kr p) (L_g 1 kr (L_nil (W_seq (W_sg 4 kr (L_ld _ rfl rfl kr ((H.sm T0 hFB).cl.ld (o := 0) kr rfl) (L_g 1 kr ?_))))))))
 obtain ⟨b3, o3, i3, l3⟩ := (H.sm T0 hFB).inp.row (T := 22) (el := 27) kr kr kr hp
 refine L_ix _ rfl rfl kr kr (i3) (L_ld _ rfl rfl kr ((H.sm T0 hFB).inp.rowLd (T := 22) (el := 27) kr kr kr hp i3) (L_ln _ rfl rfl kr ((H.sm T0 hFB).inp.lenR (T := 27) (el := 83) kr hp) (L_i (((S p).length : Int)) (((L p).length : Int)) (.bool false) rfl rfl kr kr rfl (by simp; omega) (L_nil ?_))))
 refine W_cond false kr (fun e => by cases e) (fun _ => ?_)
 refine W_skip (W_sg 3 kr (L_ld _ rfl rfl kr ((H.sm T0 hFB).cl.ld (o := 0) kr rfl) (L_g 1 kr ?_)))
 obtain ⟨b3, o3, i3, l3⟩ := (H.sm T0 hFB).inp.row (T := 22) (el := 27) kr kr kr hp
 refine L_ix _ rfl rfl kr kr (i3) (L_ld _ rfl rfl kr ((H.sm T0 hFB).inp.rowLd (T := 22) (el := 27) kr kr kr hp i3) (L_g 1 kr ?_))
 obtain ⟨b4, o4, i4, l4⟩ := (H.sm T0 hFB).inp.ev (T := 27) (el := 83) kr kr hp hx
 refine L_ix _ rfl rfl kr kr (i4) (L_ld _ rfl rfl kr (ld_l (l := ev6 x) kr l4) (L_nwc [nv 0, nv 0, nv 0, nv 0, nv 0, .bool false] .ptr rfl rfl kr fun h177 c177 t177 n177 => ?_))
 have T177 := T0.ext t177
 have U177 := U0.ext t177
 have N177 := T177.nx
 have NU177 := U177.nx
 obtain ⟨h178, e178, d178, t178, n178⟩ := Cl.storeN (P := Tryz.prog) (T := 83) (n := 6) (v := .agg ⟨(ev6 x)⟩) (cs := (ev6 x)) c177 rfl kr rfl (ev6_len _) (List.all_eq_true.1 rfl)
 replace c177 := d178
 have T178 := T177.tr t178
 have U178 := U177.tr t178
 have N178 := T178.nx
 have NU178 := U178.nx
 refine L_st _ rfl rfl rfl kr kr (e178) (L_nil (W_sg 2 kr (L_c rfl rfl kr (rbegin_ok (H.sm T178 hFB) (X.ext U178) hp (by omega)) ?_)))
 rintro v179 h179 ⟨e179, t179⟩
 try dsimp only at e179
 try dsimp only at t179
 subst e179
 replace c177 := c177.ext t179
 have T179 := T178.ext t179
 have U179 := U178.ext t179
 have N179 := T179.nx
 have NU179 := U179.nx
 have M179 := t179.nx
 refine L_g 1 kr (L_nwc [nv 0, nv 0, nv 0, nv 0] .ptr rfl rfl kr fun h180 c180 t180 n180 => ?_)
 replace c177 := c177.ext t180
 have T180 := T179.ext t180
 have U180 := U179.ext t180
 have N180 := T180.nx
 have NU180 := U180.nx
 obtain ⟨h181, e181, d181, t181, n181⟩ := c180.sA 56 [nv (bgn S p (S p).length), nv 0, nv 0, nv 0]
 replace c177 := c177.sn t181
 replace c180 := d181
 have T181 := T180.tr t181
 have U181 := U180.tr t181
 have N181 := T181.nx
 have NU181 := U181.nx
 refine L_st _ rfl rfl rfl kr kr (e181) (L_nil (W_sg 1 kr (L_ld _ rfl rfl kr (c180.ld (o := 0) kr rfl) (L_g 2 kr (L_nil (W_seq (W_seq (W_region (L_g 1 kr ?_)))))))))
 refine L_ld _ rfl rfl kr (c177.ld (o := 0) kr rfl) (L_nil (W_block (W_seq (W_region (L_i (x.k) (1) (.bool (decide (x.k = 1))) rfl rfl kr kr rfl (rfl) (L_g 1 kr (L_nil ?_)))))))
 refine W_cond (decide (x.k = 1)) kr (fun hb => ?_) (fun hb => ?_)
 ·
  have hk1 : x.k = 1 := of_decide_eq_true hb
  exfalso
  unfold strt at hn
  rw [if_pos hk1] at hn
  cases hn--end
 ·
  have n1 : ¬ x.k = 1 := of_decide_eq_false hb
  refine W_seq (W_region (L_i (x.k) (4) (.bool (decide (x.k = 4))) rfl rfl kr kr rfl (rfl) (L_g 1 kr (L_nil ?_))))
  refine W_cond (decide (x.k = 4)) kr (fun hb => ?_) (fun hb => ?_)
  ·
   have hk4 : x.k = 4 := of_decide_eq_true hb
   exfalso
   unfold strt at hn
   rw [if_neg n1, if_pos hk4] at hn
   cases hn--end
  ·
   have n4 : ¬ x.k = 4 := of_decide_eq_false hb
   refine W_seq (W_region (L_i (x.k) (2) (.bool (decide (x.k = 2))) rfl rfl kr kr rfl (rfl) (L_g 1 kr (L_nil ?_))))
   refine W_cond (decide (x.k = 2)) kr (fun hb => ?_) (fun hb => ?_)
   ·
    have hk2 : x.k = 2 := of_decide_eq_true hb
    obtain ⟨q, j, hq, hqN, hj⟩ : ∃ q j : Nat, x.p = (q : Int) ∧ q < N ∧ fnd (L q) 1 p x.n = some j := by
     have hok2 := hok
     unfold okE at hok2
     rw [if_neg (by omega), if_pos hk2] at hok2
     simp [peerOk] at hok2
     obtain ⟨q, hq⟩ : ∃ q : Nat, x.p = (q : Int) := ⟨x.p.toNat, by omega⟩
     have hsn := A.l.snt p x (List.mem_of_getElem? hx) hk2
     obtain ⟨j, hj⟩ := Option.isSome_iff_exists.1 hsn
     rw [hq] at hj
     simp only [Int.toNat_natCast] at hj
     exact ⟨q, j, hq, by omega, hj⟩
    have hBq := A.all q
    have hjl := fnd_lt hj
    have hs : (S q)[j]? = none := by
     unfold strt at hn
     rw [if_neg n1, if_neg n4, if_pos hk2, hq] at hn
     simp only [Int.toNat_natCast] at hn
     rw [hj] at hn
     dsimp only at hn
     cases hs : (S q)[j]? with
     | none => rfl
     | some s => rw [hs] at hn; cases hn
    have hsl := List.getElem?_eq_none_iff.1 hs
    refine W_seq (W_drawn kr (D_e (e := 11) (l := [0,1,2,3,4,5,6,7,8,9,10]) (s' := []) kr kr rfl kr Rk_nil (NS_b 3 kr (NS_ld _ rfl rfl kr kr kr ((H.sm T181 hFB).cl.ld (o := 0) kr rfl) (NS_b 1 kr (NS_ld _ rfl rfl kr kr kr (c177.ld (o := 1) kr rfl) ?_))))))
    obtain ⟨b6, o6, i6, l6⟩ := (H.sm T181 hFB).inp.row (T := 22) (el := 27) kr kr kr hqN
    rw [← hq] at i6
    refine NS_ix _ rfl rfl kr kr kr kr (i6) (NS_ld _ rfl rfl kr kr kr ((H.sm T181 hFB).inp.rowLd (T := 22) (el := 27) kr kr kr hqN (hq ▸ i6)) (NS_b 2 kr (NS_ld _ rfl rfl kr kr kr (c177.ld (o := 3) kr rfl) (NS_nil (L_c rfl rfl kr (find_ok 1 (p : Int) x.n ((H.sm T181 hFB).inp.r q hqN) (by omega)) ?_)))))
    rintro v182 h182 ⟨e182, t182⟩
    try dsimp only at e182
    try dsimp only at t182
    subst e182
    replace c177 := c177.ext t182
    have T182 := T181.ext t182
    have U182 := U181.ext t182
    have N182 := T182.nx
    have NU182 := U182.nx
    have M182 := t182.nx
    refine L_nil ⟨rfl, ?_⟩
    refine D_l (l := [12]) kr kr Rk_nil (NS_b 1 kr (NS_nil (W_seq (W_seq (W_drawn kr (D_l (l := [0,1,2,3,4,5,6,7,8,9,10]) kr kr Rk_nil (NS_b 3 kr (NS_ld _ rfl rfl kr kr kr ((H.sm T182 hFB).cl.ld (o := 5) kr rfl) (NS_b 1 kr (NS_ld _ rfl rfl kr kr kr (c177.ld (o := 1) kr rfl) ?_))))))))))
    obtain ⟨b7, o7, i7, l7⟩ := (X.ext U182).row (T := 39) (el := 52) kr kr kr hqN
    rw [← hq] at i7
    refine NS_ix _ rfl rfl kr kr kr kr (i7) (NS_ld _ rfl rfl kr kr kr ((X.ext U182).rowLd (T := 39) (el := 52) kr kr kr hqN (hq ▸ i7)) (NS_ln _ rfl rfl kr kr kr ((X.ext U182).lenR (T := 52) (el := 56) kr q) (NS_b 1 kr (NS_i (((S q).length : Int)) ((fndZ (L q) 1 p x.n)) (.bool true) rfl rfl kr kr kr kr rfl (by rw [fndZ_some hj]; simp; omega) (NS_nil ?_)))))
    refine W_cond true kr (fun _ => ?_) (fun e => by cases e)
    refine W_sg 1 kr (L_nil (W_ret ?_))
    repeat first | with_reducible refine then_ret ?_ | with_reducible refine blk_ret ?_
    refine done_of (v := .bool false) (.inl rfl) kr ?_
    exact ⟨rfl, U182⟩
   ·
    have n2 : ¬ x.k = 2 := of_decide_eq_false hb
    refine W_seq (W_region (L_i (x.k) (3) (.bool (decide (x.k = 3))) rfl rfl kr kr rfl (rfl) (L_g 1 kr (L_nil ?_))))
    refine W_cond (decide (x.k = 3)) kr (fun hb => ?_) (fun hb => ?_)
    ·
     have hk3 : x.k = 3 := of_decide_eq_true hb
     have ho : opn L S x.n N = none := by
      unfold strt at hn
      rw [if_neg n1, if_neg n4, if_neg n2] at hn
      cases hc : opn L S x.n N with
      | none => rfl
      | some c =>
       cases c with
       | some c => rw [hc] at hn; cases hn
       | none =>
        exfalso
        have h6 := opn_one N hc p hp
        unfold fnd at h6
        rw [List.findIdx?_eq_none_iff] at h6
        have := h6 x (List.mem_of_getElem? hx)
        simp [fits, hk3] at this
     have hor : opR (opn L S x.n N) = .tuple ⟨[nv 0, nv 0, .bool false]⟩ := by rw [ho]; rfl
     refine W_sg 2 kr (L_ld _ rfl rfl kr (c177.ld (o := 3) kr rfl) (L_c rfl rfl kr (hor ▸ ropen_ok (no := x.n) (H.sm T181 hFB) (X.ext U181) g hB9 hN9) ?_))
     rintro v183 h183 ⟨e183, t183⟩
     try dsimp only at e183
     try dsimp only at t183
     subst e183
     have T183 := T181.ext t183
     have U183 := U181.ext t183
     have N183 := T183.nx
     have NU183 := U183.nx
     have M183 := t183.nx
     refine L_g 7 kr (L_nil (W_seq (W_sg 2 kr (L_nil ?_))))
     refine W_cond true kr (fun _ => ?_) (fun e => by cases e)
     refine W_sg 1 kr (L_nil (W_ret ?_))
     repeat first | with_reducible refine then_ret ?_ | with_reducible refine blk_ret ?_
     refine done_of (v := .bool false) (.inl rfl) kr ?_
     exact ⟨rfl, U183⟩
    ·
     have n3 : ¬ x.k = 3 := of_decide_eq_false hb
     exfalso
     omega--end
set_option maxHeartbeats 4000000 in
theorem rnext_ok {h : AH} {F : Nat → Prop} {hi B tb N : Nat} {VL VS : Option Nat → Value} {L : Lf} {S : Sf} {C : TC} {p : Nat} {s : TS} (H : RT h F tb VL (VS none) N L C) (X : SpL h hi B VS N S) (g : Gd N L S) (A : Bn N L C) (hFB : ∀ b, Tch hi B b → ¬ F b) (hp : p < N) (hs : nxt N L C S p = some s) :
  Arm.Calls Tryz.prog 50 [ptr tb, nv (p : Int)] h (fun r => r.1 = .bool true ∧ ∃ VS', VS' none = VS none ∧ SpL r.2 hi B VS' N (put1 S p s) ∧ Sm (Tch hi B) h r.2) := by
 have hlt0 := nxt_lt hs
 obtain ⟨x, hx⟩ : ∃ x, (L p)[(S p).length]? = some x := ⟨_, List.getElem?_eq_getElem hlt0⟩
 unfold nxt at hs
 rw [hx] at hs
 dsimp only at hs
 obtain ⟨a, ha, hs⟩ : ∃ a, strt N L C S p x = some a ∧ spanOf (bgn S p (S p).length) a = s := by
  cases hq : strt N L C S p x with
  | none => rw [hq] at hs; cases hs
  | some a => rw [hq] at hs; exact ⟨a, rfl, by cases hs; rfl⟩
 have hst := g.strt A.c A.l hx ha
 have hlt := (List.getElem?_eq_some_iff.1 hx).1
 have hBp := A.all p
 have hok := A.l.ev p _ x hx
 have hk4 := okE_k hok
 have hB9 : ∀ q, (L q).length < 1000000000 := fun q => by have := A.all q; omega
 have hN9 : N < 1000000000 := by have := A.n; omega
 have hb1 := g.bgn p (S p).length
 have htot := A.tot g
 have hCc := A.c.c
 have hCr := A.c.r
 have hCs := A.c.s
 have hCm := A.c.m
 refine Calls_W 162 Tryz.f50 ?_
 have U0 : Sm Nix h h := .refl
 have T0 : Sm (Tch hi B) h h := .refl
 refine W_sg 1 kr (L_nil (W_sg 3 kr (L_ld _ rfl rfl kr ((H.sm T0 hFB).cl.ld (o := 5) kr rfl) (L_g 1 kr ?_))))
 obtain ⟨b1, o1, i1, l1⟩ := (X.ext U0).row (T := 39) (el := 52) kr kr kr hp
 refine L_ix _ rfl rfl kr kr (i1) (L_ld _ rfl rfl kr ((X.ext U0).rowLd (T := 39) (el := 52) kr kr kr hp i1) (L_ln _ rfl rfl kr ((X.ext U0).lenR (T := 52) (el := 56) kr p) (L_g 1 kr (L_nil (W_seq (W_sg 4 kr (L_ld _ rfl rfl kr ((H.sm T0 hFB).cl.ld (o := 0) kr rfl) (L_g 1 kr ?_))))))))
 obtain ⟨b3, o3, i3, l3⟩ := (H.sm T0 hFB).inp.row (T := 22) (el := 27) kr kr kr hp
 refine L_ix _ rfl rfl kr kr (i3) (L_ld _ rfl rfl kr ((H.sm T0 hFB).inp.rowLd (T := 22) (el := 27) kr kr kr hp i3) (L_ln _ rfl rfl kr ((H.sm T0 hFB).inp.lenR (T := 27) (el := 83) kr hp) (L_i (((S p).length : Int)) (((L p).length : Int)) (.bool false) rfl rfl kr kr rfl (by simp; omega) (L_nil ?_))))
 refine W_cond false kr (fun e => by cases e) (fun _ => ?_)
 refine W_skip (W_sg 3 kr (L_ld _ rfl rfl kr ((H.sm T0 hFB).cl.ld (o := 0) kr rfl) (L_g 1 kr ?_)))
 obtain ⟨b3, o3, i3, l3⟩ := (H.sm T0 hFB).inp.row (T := 22) (el := 27) kr kr kr hp
 refine L_ix _ rfl rfl kr kr (i3) (L_ld _ rfl rfl kr ((H.sm T0 hFB).inp.rowLd (T := 22) (el := 27) kr kr kr hp i3) (L_g 1 kr ?_))
 obtain ⟨b4, o4, i4, l4⟩ := (H.sm T0 hFB).inp.ev (T := 27) (el := 83) kr kr hp hx
 refine L_ix _ rfl rfl kr kr (i4) (L_ld _ rfl rfl kr (ld_l (l := ev6 x) kr l4) (L_nwc [nv 0, nv 0, nv 0, nv 0, nv 0, .bool false] .ptr rfl rfl kr fun h184 c184 t184 n184 => ?_))
 have T184 := T0.ext t184
 have U184 := U0.ext t184
 have N184 := T184.nx
 have NU184 := U184.nx
 obtain ⟨h185, e185, d185, t185, n185⟩ := Cl.storeN (P := Tryz.prog) (T := 83) (n := 6) (v := .agg ⟨(ev6 x)⟩) (cs := (ev6 x)) c184 rfl kr rfl (ev6_len _) (List.all_eq_true.1 rfl)
 replace c184 := d185
 have T185 := T184.tr t185
 have U185 := U184.tr t185
 have N185 := T185.nx
 have NU185 := U185.nx
 refine L_st _ rfl rfl rfl kr kr (e185) (L_nil (W_sg 2 kr (L_c rfl rfl kr (rbegin_ok (H.sm T185 hFB) (X.ext U185) hp (by omega)) ?_)))
 rintro v186 h186 ⟨e186, t186⟩
 try dsimp only at e186
 try dsimp only at t186
 subst e186
 replace c184 := c184.ext t186
 have T186 := T185.ext t186
 have U186 := U185.ext t186
 have N186 := T186.nx
 have NU186 := U186.nx
 have M186 := t186.nx
 refine L_g 1 kr (L_nwc [nv 0, nv 0, nv 0, nv 0] .ptr rfl rfl kr fun h187 c187 t187 n187 => ?_)
 replace c184 := c184.ext t187
 have T187 := T186.ext t187
 have U187 := U186.ext t187
 have N187 := T187.nx
 have NU187 := U187.nx
 obtain ⟨h188, e188, d188, t188, n188⟩ := c187.sA 56 [nv (bgn S p (S p).length), nv 0, nv 0, nv 0]
 replace c184 := c184.sn t188
 replace c187 := d188
 have T188 := T187.tr t188
 have U188 := U187.tr t188
 have N188 := T188.nx
 have NU188 := U188.nx
 refine L_st _ rfl rfl rfl kr kr (e188) (L_nil (W_sg 1 kr (L_ld _ rfl rfl kr (c187.ld (o := 0) kr rfl) (L_g 2 kr (L_nil (W_seq (W_seq (W_region (L_g 1 kr ?_)))))))))
 refine L_ld _ rfl rfl kr (c184.ld (o := 0) kr rfl) (L_nil (W_block (W_seq (W_region (L_i (x.k) (1) (.bool (decide (x.k = 1))) rfl rfl kr kr rfl (rfl) (L_g 1 kr (L_nil ?_)))))))
 refine W_cond (decide (x.k = 1)) kr (fun hb => ?_) (fun hb => ?_)
 ·
  have hk1 : x.k = 1 := of_decide_eq_true hb
  unfold strt at ha
  rw [if_pos hk1] at ha
  cases ha
  dsimp only at hst
  have hf1 : (bgn S p (S p).length) = (bgn S p (S p).length) + max 0 (0 - (bgn S p (S p).length)) := by omega
  have hf2 : C.s = C.s := rfl
  refine W_rg 4 kr (L_ld _ rfl rfl kr ((H.sm T188 hFB).cl.ld (o := 1) kr rfl) (L_g 1 kr (L_nil (W_sg 2 kr (L_ld _ rfl rfl kr (c187.ld (o := 0) kr rfl) (L_i ((bgn S p (S p).length)) ((bgn S p (S p).length)) (nv ((bgn S p (S p).length) - (bgn S p (S p).length))) rfl rfl kr kr rfl (wrap_id (by omega) (by omega)) (L_g 2 kr (L_i ((bgn S p (S p).length)) (C.s) (nv ((bgn S p (S p).length) + C.s)) rfl rfl kr kr rfl (wrap_id (by omega) (by omega)) ?_))))))))
  refine L_g 1 kr ?_
  obtain ⟨h189, e189, d189, t189, n189⟩ := c187.store (P := Tryz.prog) (T := 3) (o := 2) (v := nv ((bgn S p (S p).length) - (bgn S p (S p).length))) kr rfl rfl (by simp)
  replace d189 : Cl h189 (h186.next) [nv (bgn S p (S p).length), nv 0, nv ((bgn S p (S p).length) - (bgn S p (S p).length)), nv 0] := d189
  replace c187 := d189
  have T189 := T188.tr t189
  have U189 := U188.tr t189
  have N189 := T189.nx
  have NU189 := U189.nx
  refine L_st _ rfl rfl rfl kr kr (e189) (L_g 1 kr ?_)
  obtain ⟨h190, e190, d190, t190, n190⟩ := c187.store (P := Tryz.prog) (T := 3) (o := 1) (v := nv ((bgn S p (S p).length) + C.s)) kr rfl rfl (by simp)
  replace d190 : Cl h190 (h186.next) [nv (bgn S p (S p).length), nv ((bgn S p (S p).length) + C.s), nv ((bgn S p (S p).length) - (bgn S p (S p).length)), nv 0] := d190
  replace c187 := d190
  have T190 := T189.tr t190
  have U190 := U189.tr t190
  have N190 := T190.nx
  have NU190 := U190.nx
  refine L_st _ rfl rfl rfl kr kr (e190) (L_nil (W_seq (W_sg 1 kr (L_ld _ rfl rfl kr (c187.ld (o := 2) kr rfl) (L_i (((bgn S p (S p).length) - (bgn S p (S p).length))) (0) (.bool (decide (((bgn S p (S p).length) - (bgn S p (S p).length)) = 0))) rfl rfl kr kr rfl (rfl) (L_nil ?_))))))
  refine W_cond (decide (((bgn S p (S p).length) - (bgn S p (S p).length)) = 0)) kr (fun hb => ?_) (fun hb => ?_)
  ·
   have hw0 : ((bgn S p (S p).length) - (bgn S p (S p).length)) = 0 := of_decide_eq_true hb
   have hsp : sp4 s = [nv (bgn S p (S p).length), nv ((bgn S p (S p).length) + C.s), nv ((bgn S p (S p).length) - (bgn S p (S p).length)), nv 0] := by
    rw [← hs, sp4_of (fr := (bgn S p (S p).length)) hf1 rfl, if_pos hw0]
   refine W_region (L_g 1 kr ?_)
   obtain ⟨h191, e191, d191, t191, n191⟩ := c187.store (P := Tryz.prog) (T := 3) (o := 3) (v := nv 0) kr rfl rfl (by simp)
   replace d191 : Cl h191 (h186.next) [nv (bgn S p (S p).length), nv ((bgn S p (S p).length) + C.s), nv ((bgn S p (S p).length) - (bgn S p (S p).length)), nv 0] := d191
   replace c187 := d191
   have T191 := T190.tr t191
   have U191 := U190.tr t191
   have N191 := T191.nx
   have NU191 := U191.nx
   refine L_st _ rfl rfl rfl kr kr (e191) (L_nil (W_seq (W_drawn kr (D_e (e := 14) (l := [0,1,2,3,4,5,6,7,8,9,10,11,12,13]) (s' := [0,1,2,3,4]) kr kr rfl kr Rk_nil (NS_b 3 kr (NS_ld _ rfl rfl kr kr kr ((H.sm T191 hFB).cl.ld (o := 5) kr rfl) (NS_b 4 kr (NS_ld _ rfl rfl kr kr kr ((H.sm T191 hFB).cl.ld (o := 5) kr rfl) (NS_b 1 kr ?_)))))))))
   obtain ⟨b1, o1, i1, l1⟩ := (X.ext U191).row (T := 39) (el := 52) kr kr kr hp
   refine NS_ix _ rfl rfl kr kr kr kr (i1) (NS_ld _ rfl rfl kr kr kr ((X.ext U191).rowLd (T := 39) (el := 52) kr kr kr hp i1) (NS_ld _ rfl rfl kr kr kr (Cl.allN (n := 4) c187 rfl kr) (NS_nwc [nv (bgn S p (S p).length), nv ((bgn S p (S p).length) + C.s), nv ((bgn S p (S p).length) - (bgn S p (S p).length)), nv 0] (.sl 1 1) rfl kr rfl rfl kr (Rk_1 rfl rfl (Rk_1 rfl rfl (Rk_1 rfl rfl (Rk_ld _ rfl rfl rfl kr ((H.sm (T191.ext (.push h191 _)) hFB).cl.ld (o := 5) kr rfl) kr (Rk_1 rfl rfl (Rk_1 rfl rfl (Rk_1 rfl rfl (Rk_1 rfl rfl (Rk_ld _ rfl rfl rfl kr ((H.sm (T191.ext (.push h191 _)) hFB).cl.ld (o := 5) kr rfl) kr (Rk_1 rfl rfl (Rk_1 rfl rfl (Rk_ld _ rfl rfl rfl kr ((X.ext (U191.ext (.push h191 _))).rowLd (T := 39) (el := 52) kr kr kr hp i1) kr (Rk_ld _ rfl rfl rfl kr (Cl.allN (n := 4) (c187.ext (.push h191 _)) rfl kr) kr (Rk_1 rfl rfl Rk_nil)))))))))))))) fun h192 c192 t192 n192 => ?_)))
   have T192 := T191.ext t192
   have U192 := U191.ext t192
   have N192 := T192.nx
   have NU192 := U192.nx
   refine NS_nil ?_
   obtain ⟨v193, h193, e193, g193, s193, n193⟩ := Gr.append (P := Tryz.prog) (sT := 52) (xT := 52) (el := 56) (by_ := 32) (z := .agg ⟨[nv 0, nv 0, nv 0, nv 0]⟩) (m := 1) (ds := sp4 s) kr kr kr kr kr kr (by decide) (show Gr h192 4 (VS (some p)) (S p).length ((S p).flatMap sp4) from (X.ext U192).lay.gr (some p)) (u := .slice (some ⟨h191.next, 0, none⟩) 1 1) (Cl.sdK (by decide) (by rw [hsp]; exact c192) rfl) sp4_one (by omega)
   have w193 := ((X.ext U192).lay.gr none).ws.sm s193 (fun b hb hx => by have := X.lay.inj none (some p) b hb hx; cases this)
   refine L_bi v193 h193 rfl rfl kr (vs := [VS (some p), .slice (some ⟨h191.next, 0, none⟩) 1 1]) kr (bi_append e193) ?_
   have T193 : Sm (Tch hi B) h h193 := T192.trans s193 (fun b hb => .inl (.inr (X.lo p b hb)))
   have N193 := T193.nx
   refine L_nil ⟨rfl, ?_⟩
   refine D_e (e := 16) (l := [15]) (s' := []) kr kr rfl kr (Rk_1 rfl rfl (Rk_1 rfl rfl (Rk_1 rfl rfl (Rk_ld _ rfl rfl rfl kr ((H.sm T193 hFB).cl.ld (o := 5) kr rfl) kr (Rk_1 rfl rfl Rk_nil))))) ?_
   obtain ⟨pa, xx, ia, ib, ic, id, ie⟩ := Ws.elem (P := Tryz.prog) (T := 39) (el := 52) kr kr kr (n := N) w193 hp .i64
   refine NS_ix _ rfl rfl kr kr kr kr (ia) (NS_nil ?_)
   obtain ⟨h194, e194, w194, t194, n194⟩ := ie v193 (oneS g193.sd).1 (oneS g193.sd).2
   obtain ⟨Y194, Z194⟩ := (X.ext U192).grow hp s193 g193 n193 t194 w194
   refine L_st _ rfl rfl rfl kr kr (e194) ?_
   have T194 : Sm (Tch hi B) h h194 := T193.trans t194 (fun b hb => .inl (.inl (by have hb : vb (VS none) = some b := hb; rw [X.b] at hb; cases hb; rfl)))
   have N194 := T194.nx
   refine L_nil ⟨rfl, ?_⟩
   refine D_l (l := []) kr kr Rk_nil (NS_nil (W_sg 1 kr (L_nil (W_ret ?_))))
   repeat first | with_reducible refine then_ret ?_ | with_reducible refine blk_ret ?_
   refine done_of (v := .bool true) (.inl rfl) kr ?_
   exact ⟨rfl, ups VS (some p) v193, ups_ne _ _ (by simp), Y194, T194⟩
  ·
   have hw0 : ¬ ((bgn S p (S p).length) - (bgn S p (S p).length)) = 0 := of_decide_eq_false hb
   have hsp : sp4 s = [nv (bgn S p (S p).length), nv ((bgn S p (S p).length) + C.s), nv ((bgn S p (S p).length) - (bgn S p (S p).length)), nv 0] := by
    rw [← hs, sp4_of (fr := (bgn S p (S p).length)) hf1 rfl, if_neg hw0]
   refine W_skip (W_seq (W_drawn kr (D_e (e := 14) (l := [0,1,2,3,4,5,6,7,8,9,10,11,12,13]) (s' := [0,1,2,3,4]) kr kr rfl kr Rk_nil (NS_b 3 kr (NS_ld _ rfl rfl kr kr kr ((H.sm T190 hFB).cl.ld (o := 5) kr rfl) (NS_b 4 kr (NS_ld _ rfl rfl kr kr kr ((H.sm T190 hFB).cl.ld (o := 5) kr rfl) (NS_b 1 kr ?_))))))))
   obtain ⟨b1, o1, i1, l1⟩ := (X.ext U190).row (T := 39) (el := 52) kr kr kr hp
   refine NS_ix _ rfl rfl kr kr kr kr (i1) (NS_ld _ rfl rfl kr kr kr ((X.ext U190).rowLd (T := 39) (el := 52) kr kr kr hp i1) (NS_ld _ rfl rfl kr kr kr (Cl.allN (n := 4) c187 rfl kr) (NS_nwc [nv (bgn S p (S p).length), nv ((bgn S p (S p).length) + C.s), nv ((bgn S p (S p).length) - (bgn S p (S p).length)), nv 0] (.sl 1 1) rfl kr rfl rfl kr (Rk_1 rfl rfl (Rk_1 rfl rfl (Rk_1 rfl rfl (Rk_ld _ rfl rfl rfl kr ((H.sm (T190.ext (.push h190 _)) hFB).cl.ld (o := 5) kr rfl) kr (Rk_1 rfl rfl (Rk_1 rfl rfl (Rk_1 rfl rfl (Rk_1 rfl rfl (Rk_ld _ rfl rfl rfl kr ((H.sm (T190.ext (.push h190 _)) hFB).cl.ld (o := 5) kr rfl) kr (Rk_1 rfl rfl (Rk_1 rfl rfl (Rk_ld _ rfl rfl rfl kr ((X.ext (U190.ext (.push h190 _))).rowLd (T := 39) (el := 52) kr kr kr hp i1) kr (Rk_ld _ rfl rfl rfl kr (Cl.allN (n := 4) (c187.ext (.push h190 _)) rfl kr) kr (Rk_1 rfl rfl Rk_nil)))))))))))))) fun h195 c195 t195 n195 => ?_)))
   have T195 := T190.ext t195
   have U195 := U190.ext t195
   have N195 := T195.nx
   have NU195 := U195.nx
   refine NS_nil ?_
   obtain ⟨v196, h196, e196, g196, s196, n196⟩ := Gr.append (P := Tryz.prog) (sT := 52) (xT := 52) (el := 56) (by_ := 32) (z := .agg ⟨[nv 0, nv 0, nv 0, nv 0]⟩) (m := 1) (ds := sp4 s) kr kr kr kr kr kr (by decide) (show Gr h195 4 (VS (some p)) (S p).length ((S p).flatMap sp4) from (X.ext U195).lay.gr (some p)) (u := .slice (some ⟨h190.next, 0, none⟩) 1 1) (Cl.sdK (by decide) (by rw [hsp]; exact c195) rfl) sp4_one (by omega)
   have w196 := ((X.ext U195).lay.gr none).ws.sm s196 (fun b hb hx => by have := X.lay.inj none (some p) b hb hx; cases this)
   refine L_bi v196 h196 rfl rfl kr (vs := [VS (some p), .slice (some ⟨h190.next, 0, none⟩) 1 1]) kr (bi_append e196) ?_
   have T196 : Sm (Tch hi B) h h196 := T195.trans s196 (fun b hb => .inl (.inr (X.lo p b hb)))
   have N196 := T196.nx
   refine L_nil ⟨rfl, ?_⟩
   refine D_e (e := 16) (l := [15]) (s' := []) kr kr rfl kr (Rk_1 rfl rfl (Rk_1 rfl rfl (Rk_1 rfl rfl (Rk_ld _ rfl rfl rfl kr ((H.sm T196 hFB).cl.ld (o := 5) kr rfl) kr (Rk_1 rfl rfl Rk_nil))))) ?_
   obtain ⟨pa, xx, ia, ib, ic, id, ie⟩ := Ws.elem (P := Tryz.prog) (T := 39) (el := 52) kr kr kr (n := N) w196 hp .i64
   refine NS_ix _ rfl rfl kr kr kr kr (ia) (NS_nil ?_)
   obtain ⟨h197, e197, w197, t197, n197⟩ := ie v196 (oneS g196.sd).1 (oneS g196.sd).2
   obtain ⟨Y197, Z197⟩ := (X.ext U195).grow hp s196 g196 n196 t197 w197
   refine L_st _ rfl rfl rfl kr kr (e197) ?_
   have T197 : Sm (Tch hi B) h h197 := T196.trans t197 (fun b hb => .inl (.inl (by have hb : vb (VS none) = some b := hb; rw [X.b] at hb; cases hb; rfl)))
   have N197 := T197.nx
   refine L_nil ⟨rfl, ?_⟩
   refine D_l (l := []) kr kr Rk_nil (NS_nil (W_sg 1 kr (L_nil (W_ret ?_))))
   repeat first | with_reducible refine then_ret ?_ | with_reducible refine blk_ret ?_
   refine done_of (v := .bool true) (.inl rfl) kr ?_
   exact ⟨rfl, ups VS (some p) v196, ups_ne _ _ (by simp), Y197, T197⟩
 ·
  have n1 : ¬ x.k = 1 := of_decide_eq_false hb
  refine W_seq (W_region (L_i (x.k) (4) (.bool (decide (x.k = 4))) rfl rfl kr kr rfl (rfl) (L_g 1 kr (L_nil ?_))))
  refine W_cond (decide (x.k = 4)) kr (fun hb => ?_) (fun hb => ?_)
  ·
   have hk4x : x.k = 4 := of_decide_eq_true hb
   unfold strt at ha
   rw [if_neg n1, if_pos hk4x] at ha
   cases ha
   dsimp only at hst
   have hf1 : (bgn S p (S p).length) = (bgn S p (S p).length) + max 0 (0 - (bgn S p (S p).length)) := by omega
   refine W_rg 1 kr (L_ld _ rfl rfl kr (c184.ld (o := 4) kr rfl) (L_g 1 kr (L_nil (W_sg 2 kr (L_ld _ rfl rfl kr (c187.ld (o := 0) kr rfl) (L_i ((bgn S p (S p).length)) ((bgn S p (S p).length)) (nv ((bgn S p (S p).length) - (bgn S p (S p).length))) rfl rfl kr kr rfl (wrap_id (by omega) (by omega)) (L_g 2 kr (L_i ((bgn S p (S p).length)) (x.v) (nv ((bgn S p (S p).length) + x.v)) rfl rfl kr kr rfl (wrap_id (by omega) (by omega)) ?_))))))))
   refine L_g 1 kr ?_
   obtain ⟨h198, e198, d198, t198, n198⟩ := c187.store (P := Tryz.prog) (T := 3) (o := 2) (v := nv ((bgn S p (S p).length) - (bgn S p (S p).length))) kr rfl rfl (by simp)
   replace d198 : Cl h198 (h186.next) [nv (bgn S p (S p).length), nv 0, nv ((bgn S p (S p).length) - (bgn S p (S p).length)), nv 0] := d198
   replace c187 := d198
   have T198 := T188.tr t198
   have U198 := U188.tr t198
   have N198 := T198.nx
   have NU198 := U198.nx
   refine L_st _ rfl rfl rfl kr kr (e198) (L_g 1 kr ?_)
   obtain ⟨h199, e199, d199, t199, n199⟩ := c187.store (P := Tryz.prog) (T := 3) (o := 1) (v := nv ((bgn S p (S p).length) + x.v)) kr rfl rfl (by simp)
   replace d199 : Cl h199 (h186.next) [nv (bgn S p (S p).length), nv ((bgn S p (S p).length) + x.v), nv ((bgn S p (S p).length) - (bgn S p (S p).length)), nv 0] := d199
   replace c187 := d199
   have T199 := T198.tr t199
   have U199 := U198.tr t199
   have N199 := T199.nx
   have NU199 := U199.nx
   refine L_st _ rfl rfl rfl kr kr (e199) (L_nil (W_seq (W_sg 1 kr (L_ld _ rfl rfl kr (c187.ld (o := 2) kr rfl) (L_i (((bgn S p (S p).length) - (bgn S p (S p).length))) (0) (.bool (decide (((bgn S p (S p).length) - (bgn S p (S p).length)) = 0))) rfl rfl kr kr rfl (rfl) (L_nil ?_))))))
   refine W_cond (decide (((bgn S p (S p).length) - (bgn S p (S p).length)) = 0)) kr (fun hb => ?_) (fun hb => ?_)
   ·
    have hw0 : ((bgn S p (S p).length) - (bgn S p (S p).length)) = 0 := of_decide_eq_true hb
    have hsp : sp4 s = [nv (bgn S p (S p).length), nv ((bgn S p (S p).length) + x.v), nv ((bgn S p (S p).length) - (bgn S p (S p).length)), nv 0] := by
     rw [← hs, sp4_of (fr := (bgn S p (S p).length)) hf1 rfl, if_pos hw0]
    refine W_region (L_g 1 kr ?_)
    obtain ⟨h200, e200, d200, t200, n200⟩ := c187.store (P := Tryz.prog) (T := 3) (o := 3) (v := nv 0) kr rfl rfl (by simp)
    replace d200 : Cl h200 (h186.next) [nv (bgn S p (S p).length), nv ((bgn S p (S p).length) + x.v), nv ((bgn S p (S p).length) - (bgn S p (S p).length)), nv 0] := d200
    replace c187 := d200
    have T200 := T199.tr t200
    have U200 := U199.tr t200
    have N200 := T200.nx
    have NU200 := U200.nx
    refine L_st _ rfl rfl rfl kr kr (e200) (L_nil (W_seq (W_drawn kr (D_e (e := 14) (l := [0,1,2,3,4,5,6,7,8,9,10,11,12,13]) (s' := [0,1,2,3,4]) kr kr rfl kr Rk_nil (NS_b 3 kr (NS_ld _ rfl rfl kr kr kr ((H.sm T200 hFB).cl.ld (o := 5) kr rfl) (NS_b 4 kr (NS_ld _ rfl rfl kr kr kr ((H.sm T200 hFB).cl.ld (o := 5) kr rfl) (NS_b 1 kr ?_)))))))))
    obtain ⟨b1, o1, i1, l1⟩ := (X.ext U200).row (T := 39) (el := 52) kr kr kr hp
    refine NS_ix _ rfl rfl kr kr kr kr (i1) (NS_ld _ rfl rfl kr kr kr ((X.ext U200).rowLd (T := 39) (el := 52) kr kr kr hp i1) (NS_ld _ rfl rfl kr kr kr (Cl.allN (n := 4) c187 rfl kr) (NS_nwc [nv (bgn S p (S p).length), nv ((bgn S p (S p).length) + x.v), nv ((bgn S p (S p).length) - (bgn S p (S p).length)), nv 0] (.sl 1 1) rfl kr rfl rfl kr (Rk_1 rfl rfl (Rk_1 rfl rfl (Rk_1 rfl rfl (Rk_ld _ rfl rfl rfl kr ((H.sm (T200.ext (.push h200 _)) hFB).cl.ld (o := 5) kr rfl) kr (Rk_1 rfl rfl (Rk_1 rfl rfl (Rk_1 rfl rfl (Rk_1 rfl rfl (Rk_ld _ rfl rfl rfl kr ((H.sm (T200.ext (.push h200 _)) hFB).cl.ld (o := 5) kr rfl) kr (Rk_1 rfl rfl (Rk_1 rfl rfl (Rk_ld _ rfl rfl rfl kr ((X.ext (U200.ext (.push h200 _))).rowLd (T := 39) (el := 52) kr kr kr hp i1) kr (Rk_ld _ rfl rfl rfl kr (Cl.allN (n := 4) (c187.ext (.push h200 _)) rfl kr) kr (Rk_1 rfl rfl Rk_nil)))))))))))))) fun h201 c201 t201 n201 => ?_)))
    have T201 := T200.ext t201
    have U201 := U200.ext t201
    have N201 := T201.nx
    have NU201 := U201.nx
    refine NS_nil ?_
    obtain ⟨v202, h202, e202, g202, s202, n202⟩ := Gr.append (P := Tryz.prog) (sT := 52) (xT := 52) (el := 56) (by_ := 32) (z := .agg ⟨[nv 0, nv 0, nv 0, nv 0]⟩) (m := 1) (ds := sp4 s) kr kr kr kr kr kr (by decide) (show Gr h201 4 (VS (some p)) (S p).length ((S p).flatMap sp4) from (X.ext U201).lay.gr (some p)) (u := .slice (some ⟨h200.next, 0, none⟩) 1 1) (Cl.sdK (by decide) (by rw [hsp]; exact c201) rfl) sp4_one (by omega)
    have w202 := ((X.ext U201).lay.gr none).ws.sm s202 (fun b hb hx => by have := X.lay.inj none (some p) b hb hx; cases this)
    refine L_bi v202 h202 rfl rfl kr (vs := [VS (some p), .slice (some ⟨h200.next, 0, none⟩) 1 1]) kr (bi_append e202) ?_
    have T202 : Sm (Tch hi B) h h202 := T201.trans s202 (fun b hb => .inl (.inr (X.lo p b hb)))
    have N202 := T202.nx
    refine L_nil ⟨rfl, ?_⟩
    refine D_e (e := 16) (l := [15]) (s' := []) kr kr rfl kr (Rk_1 rfl rfl (Rk_1 rfl rfl (Rk_1 rfl rfl (Rk_ld _ rfl rfl rfl kr ((H.sm T202 hFB).cl.ld (o := 5) kr rfl) kr (Rk_1 rfl rfl Rk_nil))))) ?_
    obtain ⟨pa, xx, ia, ib, ic, id, ie⟩ := Ws.elem (P := Tryz.prog) (T := 39) (el := 52) kr kr kr (n := N) w202 hp .i64
    refine NS_ix _ rfl rfl kr kr kr kr (ia) (NS_nil ?_)
    obtain ⟨h203, e203, w203, t203, n203⟩ := ie v202 (oneS g202.sd).1 (oneS g202.sd).2
    obtain ⟨Y203, Z203⟩ := (X.ext U201).grow hp s202 g202 n202 t203 w203
    refine L_st _ rfl rfl rfl kr kr (e203) ?_
    have T203 : Sm (Tch hi B) h h203 := T202.trans t203 (fun b hb => .inl (.inl (by have hb : vb (VS none) = some b := hb; rw [X.b] at hb; cases hb; rfl)))
    have N203 := T203.nx
    refine L_nil ⟨rfl, ?_⟩
    refine D_l (l := []) kr kr Rk_nil (NS_nil (W_sg 1 kr (L_nil (W_ret ?_))))
    repeat first | with_reducible refine then_ret ?_ | with_reducible refine blk_ret ?_
    refine done_of (v := .bool true) (.inl rfl) kr ?_
    exact ⟨rfl, ups VS (some p) v202, ups_ne _ _ (by simp), Y203, T203⟩
   ·
    have hw0 : ¬ ((bgn S p (S p).length) - (bgn S p (S p).length)) = 0 := of_decide_eq_false hb
    have hsp : sp4 s = [nv (bgn S p (S p).length), nv ((bgn S p (S p).length) + x.v), nv ((bgn S p (S p).length) - (bgn S p (S p).length)), nv 0] := by
     rw [← hs, sp4_of (fr := (bgn S p (S p).length)) hf1 rfl, if_neg hw0]
    refine W_skip (W_seq (W_drawn kr (D_e (e := 14) (l := [0,1,2,3,4,5,6,7,8,9,10,11,12,13]) (s' := [0,1,2,3,4]) kr kr rfl kr Rk_nil (NS_b 3 kr (NS_ld _ rfl rfl kr kr kr ((H.sm T199 hFB).cl.ld (o := 5) kr rfl) (NS_b 4 kr (NS_ld _ rfl rfl kr kr kr ((H.sm T199 hFB).cl.ld (o := 5) kr rfl) (NS_b 1 kr ?_))))))))
    obtain ⟨b1, o1, i1, l1⟩ := (X.ext U199).row (T := 39) (el := 52) kr kr kr hp
    refine NS_ix _ rfl rfl kr kr kr kr (i1) (NS_ld _ rfl rfl kr kr kr ((X.ext U199).rowLd (T := 39) (el := 52) kr kr kr hp i1) (NS_ld _ rfl rfl kr kr kr (Cl.allN (n := 4) c187 rfl kr) (NS_nwc [nv (bgn S p (S p).length), nv ((bgn S p (S p).length) + x.v), nv ((bgn S p (S p).length) - (bgn S p (S p).length)), nv 0] (.sl 1 1) rfl kr rfl rfl kr (Rk_1 rfl rfl (Rk_1 rfl rfl (Rk_1 rfl rfl (Rk_ld _ rfl rfl rfl kr ((H.sm (T199.ext (.push h199 _)) hFB).cl.ld (o := 5) kr rfl) kr (Rk_1 rfl rfl (Rk_1 rfl rfl (Rk_1 rfl rfl (Rk_1 rfl rfl (Rk_ld _ rfl rfl rfl kr ((H.sm (T199.ext (.push h199 _)) hFB).cl.ld (o := 5) kr rfl) kr (Rk_1 rfl rfl (Rk_1 rfl rfl (Rk_ld _ rfl rfl rfl kr ((X.ext (U199.ext (.push h199 _))).rowLd (T := 39) (el := 52) kr kr kr hp i1) kr (Rk_ld _ rfl rfl rfl kr (Cl.allN (n := 4) (c187.ext (.push h199 _)) rfl kr) kr (Rk_1 rfl rfl Rk_nil)))))))))))))) fun h204 c204 t204 n204 => ?_)))
    have T204 := T199.ext t204
    have U204 := U199.ext t204
    have N204 := T204.nx
    have NU204 := U204.nx
    refine NS_nil ?_
    obtain ⟨v205, h205, e205, g205, s205, n205⟩ := Gr.append (P := Tryz.prog) (sT := 52) (xT := 52) (el := 56) (by_ := 32) (z := .agg ⟨[nv 0, nv 0, nv 0, nv 0]⟩) (m := 1) (ds := sp4 s) kr kr kr kr kr kr (by decide) (show Gr h204 4 (VS (some p)) (S p).length ((S p).flatMap sp4) from (X.ext U204).lay.gr (some p)) (u := .slice (some ⟨h199.next, 0, none⟩) 1 1) (Cl.sdK (by decide) (by rw [hsp]; exact c204) rfl) sp4_one (by omega)
    have w205 := ((X.ext U204).lay.gr none).ws.sm s205 (fun b hb hx => by have := X.lay.inj none (some p) b hb hx; cases this)
    refine L_bi v205 h205 rfl rfl kr (vs := [VS (some p), .slice (some ⟨h199.next, 0, none⟩) 1 1]) kr (bi_append e205) ?_
    have T205 : Sm (Tch hi B) h h205 := T204.trans s205 (fun b hb => .inl (.inr (X.lo p b hb)))
    have N205 := T205.nx
    refine L_nil ⟨rfl, ?_⟩
    refine D_e (e := 16) (l := [15]) (s' := []) kr kr rfl kr (Rk_1 rfl rfl (Rk_1 rfl rfl (Rk_1 rfl rfl (Rk_ld _ rfl rfl rfl kr ((H.sm T205 hFB).cl.ld (o := 5) kr rfl) kr (Rk_1 rfl rfl Rk_nil))))) ?_
    obtain ⟨pa, xx, ia, ib, ic, id, ie⟩ := Ws.elem (P := Tryz.prog) (T := 39) (el := 52) kr kr kr (n := N) w205 hp .i64
    refine NS_ix _ rfl rfl kr kr kr kr (ia) (NS_nil ?_)
    obtain ⟨h206, e206, w206, t206, n206⟩ := ie v205 (oneS g205.sd).1 (oneS g205.sd).2
    obtain ⟨Y206, Z206⟩ := (X.ext U204).grow hp s205 g205 n205 t206 w206
    refine L_st _ rfl rfl rfl kr kr (e206) ?_
    have T206 : Sm (Tch hi B) h h206 := T205.trans t206 (fun b hb => .inl (.inl (by have hb : vb (VS none) = some b := hb; rw [X.b] at hb; cases hb; rfl)))
    have N206 := T206.nx
    refine L_nil ⟨rfl, ?_⟩
    refine D_l (l := []) kr kr Rk_nil (NS_nil (W_sg 1 kr (L_nil (W_ret ?_))))
    repeat first | with_reducible refine then_ret ?_ | with_reducible refine blk_ret ?_
    refine done_of (v := .bool true) (.inl rfl) kr ?_
    exact ⟨rfl, ups VS (some p) v205, ups_ne _ _ (by simp), Y206, T206⟩
  ·
   have n4 : ¬ x.k = 4 := of_decide_eq_false hb
   refine W_seq (W_region (L_i (x.k) (2) (.bool (decide (x.k = 2))) rfl rfl kr kr rfl (rfl) (L_g 1 kr (L_nil ?_))))
   refine W_cond (decide (x.k = 2)) kr (fun hb => ?_) (fun hb => ?_)
   ·
    have hk2 : x.k = 2 := of_decide_eq_true hb
    obtain ⟨q, j, hq, hqN, hj⟩ : ∃ q j : Nat, x.p = (q : Int) ∧ q < N ∧ fnd (L q) 1 p x.n = some j := by
     have hok2 := hok
     unfold okE at hok2
     rw [if_neg (by omega), if_pos hk2] at hok2
     simp [peerOk] at hok2
     obtain ⟨q, hq⟩ : ∃ q : Nat, x.p = (q : Int) := ⟨x.p.toNat, by omega⟩
     have hsn := A.l.snt p x (List.mem_of_getElem? hx) hk2
     obtain ⟨j, hj⟩ := Option.isSome_iff_exists.1 hsn
     rw [hq] at hj
     simp only [Int.toNat_natCast] at hj
     exact ⟨q, j, hq, by omega, hj⟩
    have hBq := A.all q
    have hjl := fnd_lt hj
    obtain ⟨s1, hs1, ha⟩ : ∃ s1, (S q)[j]? = some s1 ∧ a = (s1.e + C.c, C.r, 1) := by
     unfold strt at ha
     rw [if_neg n1, if_neg n4, if_pos hk2, hq] at ha
     simp only [Int.toNat_natCast] at ha
     rw [hj] at ha
     dsimp only at ha
     cases hs1 : (S q)[j]? with
     | none => rw [hs1] at ha; cases ha
     | some s1 => rw [hs1] at ha; cases ha; exact ⟨s1, rfl, rfl⟩
    subst ha
    dsimp only at hst
    have hsl := (List.getElem?_eq_some_iff.1 hs1).1
    have he0 := g.e0 q s1 (List.mem_of_getElem? hs1)
    have hf1 : max (bgn S p (S p).length) (s1.e + C.c) = (bgn S p (S p).length) + max 0 (s1.e + C.c - (bgn S p (S p).length)) := by omega
    refine W_seq (W_drawn kr (D_e (e := 11) (l := [0,1,2,3,4,5,6,7,8,9,10]) (s' := []) kr kr rfl kr Rk_nil (NS_b 3 kr (NS_ld _ rfl rfl kr kr kr ((H.sm T188 hFB).cl.ld (o := 0) kr rfl) (NS_b 1 kr (NS_ld _ rfl rfl kr kr kr (c184.ld (o := 1) kr rfl) ?_))))))
    obtain ⟨b6, o6, i6, l6⟩ := (H.sm T188 hFB).inp.row (T := 22) (el := 27) kr kr kr hqN
    rw [← hq] at i6
    refine NS_ix _ rfl rfl kr kr kr kr (i6) (NS_ld _ rfl rfl kr kr kr ((H.sm T188 hFB).inp.rowLd (T := 22) (el := 27) kr kr kr hqN (hq ▸ i6)) (NS_b 2 kr (NS_ld _ rfl rfl kr kr kr (c184.ld (o := 3) kr rfl) (NS_nil (L_c rfl rfl kr (find_ok 1 (p : Int) x.n ((H.sm T188 hFB).inp.r q hqN) (by omega)) ?_)))))
    rintro v207 h207 ⟨e207, t207⟩
    try dsimp only at e207
    try dsimp only at t207
    subst e207
    replace c184 := c184.ext t207
    replace c187 := c187.ext t207
    have T207 := T188.ext t207
    have U207 := U188.ext t207
    have N207 := T207.nx
    have NU207 := U207.nx
    have M207 := t207.nx
    refine L_nil ⟨rfl, ?_⟩
    refine D_l (l := [12]) kr kr Rk_nil (NS_b 1 kr (NS_nil (W_seq (W_seq (W_drawn kr (D_l (l := [0,1,2,3,4,5,6,7,8,9,10]) kr kr Rk_nil (NS_b 3 kr (NS_ld _ rfl rfl kr kr kr ((H.sm T207 hFB).cl.ld (o := 5) kr rfl) (NS_b 1 kr (NS_ld _ rfl rfl kr kr kr (c184.ld (o := 1) kr rfl) ?_))))))))))
    obtain ⟨b7, o7, i7, l7⟩ := (X.ext U207).row (T := 39) (el := 52) kr kr kr hqN
    rw [← hq] at i7
    refine NS_ix _ rfl rfl kr kr kr kr (i7) (NS_ld _ rfl rfl kr kr kr ((X.ext U207).rowLd (T := 39) (el := 52) kr kr kr hqN (hq ▸ i7)) (NS_ln _ rfl rfl kr kr kr ((X.ext U207).lenR (T := 52) (el := 56) kr q) (NS_b 1 kr (NS_i (((S q).length : Int)) ((fndZ (L q) 1 p x.n)) (.bool false) rfl rfl kr kr kr kr rfl (by rw [fndZ_some hj]; simp; omega) (NS_nil ?_)))))
    refine W_cond false kr (fun e => by cases e) (fun _ => ?_)
    refine W_skip (W_seq (W_drawn kr (D_e (e := 19) (l := [0,1,2,3,4,5,6,7,8,9,10,11,12,13,14,15,16,17,18,20,21,22,23,24]) (s' := [20,21,22,23,24]) kr kr rfl kr Rk_nil (NS_b 4 kr (NS_ld _ rfl rfl kr kr kr ((H.sm T207 hFB).cl.ld (o := 5) kr rfl) (NS_b 1 kr (NS_ld _ rfl rfl kr kr kr (c184.ld (o := 1) kr rfl) ?_)))))))
    obtain ⟨b7, o7, i7, l7⟩ := (X.ext U207).row (T := 39) (el := 52) kr kr kr hqN
    rw [← hq] at i7
    refine NS_ix _ rfl rfl kr kr kr kr (i7) (NS_ld _ rfl rfl kr kr kr ((X.ext U207).rowLd (T := 39) (el := 52) kr kr kr hqN (hq ▸ i7)) (NS_b 1 kr ?_))
    obtain ⟨b8, o8, i8, l8⟩ := (X.ext U207).sp (T := 52) (el := 56) kr kr hs1
    rw [← fndZ_some hj] at i8
    refine NS_ix _ rfl rfl kr kr kr kr (i8) (NS_b 1 kr (NS_ld _ rfl rfl kr kr kr (ld_cell kr (SpL.spCell (X.ext U207) (T := 52) (el := 56) kr kr hs1 (fndZ_some hj ▸ i8) (j := 1) (by decide))) (NS_b 4 kr (NS_ld _ rfl rfl kr kr kr ((H.sm T207 hFB).cl.ld (o := 2) kr rfl) (NS_i (s1.e) (C.c) (nv (s1.e + C.c)) rfl rfl kr kr kr kr rfl (wrap_id (by omega) (by omega)) (NS_b 4 kr (NS_ld _ rfl rfl kr kr kr ((H.sm T207 hFB).cl.ld (o := 3) kr rfl) (NS_nil (L_bi (nv (max (bgn S p (S p).length) (s1.e + C.c))) h207 rfl rfl kr (vs := [nv (bgn S p (S p).length), nv (s1.e + C.c)]) kr (max_two _ _ _ _ _) ?_)))))))))
    refine L_nil ⟨rfl, ?_⟩
    refine D_l (l := [25,26]) kr kr (Rk_1 rfl rfl (Rk_1 rfl rfl (Rk_1 rfl rfl (Rk_1 rfl rfl (Rk_ld _ rfl rfl rfl kr ((H.sm T207 hFB).cl.ld (o := 3) kr rfl) kr Rk_nil))))) (NS_b 2 kr (NS_nil (W_region (L_g 1 kr ?_))))
    obtain ⟨h208, e208, d208, t208, n208⟩ := c187.store (P := Tryz.prog) (T := 3) (o := 3) (v := nv 1) kr rfl rfl (by simp)
    replace d208 : Cl h208 (h186.next) [nv (bgn S p (S p).length), nv 0, nv 0, nv 1] := d208
    replace c187 := d208
    have T208 := T207.tr t208
    have U208 := U207.tr t208
    have N208 := T208.nx
    have NU208 := U208.nx
    refine L_st _ rfl rfl rfl kr kr (e208) (L_nil (W_sg 2 kr (L_ld _ rfl rfl kr (c187.ld (o := 0) kr rfl) (L_i ((max (bgn S p (S p).length) (s1.e + C.c))) ((bgn S p (S p).length)) (nv ((max (bgn S p (S p).length) (s1.e + C.c)) - (bgn S p (S p).length))) rfl rfl kr kr rfl (wrap_id (by omega) (by omega)) (L_g 2 kr (L_i ((max (bgn S p (S p).length) (s1.e + C.c))) (C.r) (nv ((max (bgn S p (S p).length) (s1.e + C.c)) + C.r)) rfl rfl kr kr rfl (wrap_id (by omega) (by omega)) (L_g 1 kr ?_)))))))
    obtain ⟨h209, e209, d209, t209, n209⟩ := c187.store (P := Tryz.prog) (T := 3) (o := 2) (v := nv ((max (bgn S p (S p).length) (s1.e + C.c)) - (bgn S p (S p).length))) kr rfl rfl (by simp)
    replace d209 : Cl h209 (h186.next) [nv (bgn S p (S p).length), nv 0, nv ((max (bgn S p (S p).length) (s1.e + C.c)) - (bgn S p (S p).length)), nv 1] := d209
    replace c187 := d209
    have T209 := T208.tr t209
    have U209 := U208.tr t209
    have N209 := T209.nx
    have NU209 := U209.nx
    refine L_st _ rfl rfl rfl kr kr (e209) (L_g 1 kr ?_)
    obtain ⟨h210, e210, d210, t210, n210⟩ := c187.store (P := Tryz.prog) (T := 3) (o := 1) (v := nv ((max (bgn S p (S p).length) (s1.e + C.c)) + C.r)) kr rfl rfl (by simp)
    replace d210 : Cl h210 (h186.next) [nv (bgn S p (S p).length), nv ((max (bgn S p (S p).length) (s1.e + C.c)) + C.r), nv ((max (bgn S p (S p).length) (s1.e + C.c)) - (bgn S p (S p).length)), nv 1] := d210
    replace c187 := d210
    have T210 := T209.tr t210
    have U210 := U209.tr t210
    have N210 := T210.nx
    have NU210 := U210.nx
    refine L_st _ rfl rfl rfl kr kr (e210) (L_nil (W_seq (W_sg 1 kr (L_ld _ rfl rfl kr (c187.ld (o := 2) kr rfl) (L_i (((max (bgn S p (S p).length) (s1.e + C.c)) - (bgn S p (S p).length))) (0) (.bool (decide (((max (bgn S p (S p).length) (s1.e + C.c)) - (bgn S p (S p).length)) = 0))) rfl rfl kr kr rfl (rfl) (L_nil ?_))))))
    refine W_cond (decide (((max (bgn S p (S p).length) (s1.e + C.c)) - (bgn S p (S p).length)) = 0)) kr (fun hb => ?_) (fun hb => ?_)
    ·
     have hw0 : ((max (bgn S p (S p).length) (s1.e + C.c)) - (bgn S p (S p).length)) = 0 := of_decide_eq_true hb
     have hsp : sp4 s = [nv (bgn S p (S p).length), nv ((max (bgn S p (S p).length) (s1.e + C.c)) + C.r), nv ((max (bgn S p (S p).length) (s1.e + C.c)) - (bgn S p (S p).length)), nv 0] := by
      rw [← hs, sp4_of (fr := (max (bgn S p (S p).length) (s1.e + C.c))) hf1 rfl, if_pos hw0]
     refine W_region (L_g 1 kr ?_)
     obtain ⟨h211, e211, d211, t211, n211⟩ := c187.store (P := Tryz.prog) (T := 3) (o := 3) (v := nv 0) kr rfl rfl (by simp)
     replace d211 : Cl h211 (h186.next) [nv (bgn S p (S p).length), nv ((max (bgn S p (S p).length) (s1.e + C.c)) + C.r), nv ((max (bgn S p (S p).length) (s1.e + C.c)) - (bgn S p (S p).length)), nv 0] := d211
     replace c187 := d211
     have T211 := T210.tr t211
     have U211 := U210.tr t211
     have N211 := T211.nx
     have NU211 := U211.nx
     refine L_st _ rfl rfl rfl kr kr (e211) (L_nil (W_seq (W_drawn kr (D_e (e := 14) (l := [0,1,2,3,4,5,6,7,8,9,10,11,12,13]) (s' := [0,1,2,3,4]) kr kr rfl kr Rk_nil (NS_b 3 kr (NS_ld _ rfl rfl kr kr kr ((H.sm T211 hFB).cl.ld (o := 5) kr rfl) (NS_b 4 kr (NS_ld _ rfl rfl kr kr kr ((H.sm T211 hFB).cl.ld (o := 5) kr rfl) (NS_b 1 kr ?_)))))))))
     obtain ⟨b1, o1, i1, l1⟩ := (X.ext U211).row (T := 39) (el := 52) kr kr kr hp
     refine NS_ix _ rfl rfl kr kr kr kr (i1) (NS_ld _ rfl rfl kr kr kr ((X.ext U211).rowLd (T := 39) (el := 52) kr kr kr hp i1) (NS_ld _ rfl rfl kr kr kr (Cl.allN (n := 4) c187 rfl kr) (NS_nwc [nv (bgn S p (S p).length), nv ((max (bgn S p (S p).length) (s1.e + C.c)) + C.r), nv ((max (bgn S p (S p).length) (s1.e + C.c)) - (bgn S p (S p).length)), nv 0] (.sl 1 1) rfl kr rfl rfl kr (Rk_1 rfl rfl (Rk_1 rfl rfl (Rk_1 rfl rfl (Rk_ld _ rfl rfl rfl kr ((H.sm (T211.ext (.push h211 _)) hFB).cl.ld (o := 5) kr rfl) kr (Rk_1 rfl rfl (Rk_1 rfl rfl (Rk_1 rfl rfl (Rk_1 rfl rfl (Rk_ld _ rfl rfl rfl kr ((H.sm (T211.ext (.push h211 _)) hFB).cl.ld (o := 5) kr rfl) kr (Rk_1 rfl rfl (Rk_1 rfl rfl (Rk_ld _ rfl rfl rfl kr ((X.ext (U211.ext (.push h211 _))).rowLd (T := 39) (el := 52) kr kr kr hp i1) kr (Rk_ld _ rfl rfl rfl kr (Cl.allN (n := 4) (c187.ext (.push h211 _)) rfl kr) kr (Rk_1 rfl rfl Rk_nil)))))))))))))) fun h212 c212 t212 n212 => ?_)))
     have T212 := T211.ext t212
     have U212 := U211.ext t212
     have N212 := T212.nx
     have NU212 := U212.nx
     refine NS_nil ?_
     obtain ⟨v213, h213, e213, g213, s213, n213⟩ := Gr.append (P := Tryz.prog) (sT := 52) (xT := 52) (el := 56) (by_ := 32) (z := .agg ⟨[nv 0, nv 0, nv 0, nv 0]⟩) (m := 1) (ds := sp4 s) kr kr kr kr kr kr (by decide) (show Gr h212 4 (VS (some p)) (S p).length ((S p).flatMap sp4) from (X.ext U212).lay.gr (some p)) (u := .slice (some ⟨h211.next, 0, none⟩) 1 1) (Cl.sdK (by decide) (by rw [hsp]; exact c212) rfl) sp4_one (by omega)
     have w213 := ((X.ext U212).lay.gr none).ws.sm s213 (fun b hb hx => by have := X.lay.inj none (some p) b hb hx; cases this)
     refine L_bi v213 h213 rfl rfl kr (vs := [VS (some p), .slice (some ⟨h211.next, 0, none⟩) 1 1]) kr (bi_append e213) ?_
     have T213 : Sm (Tch hi B) h h213 := T212.trans s213 (fun b hb => .inl (.inr (X.lo p b hb)))
     have N213 := T213.nx
     refine L_nil ⟨rfl, ?_⟩
     refine D_e (e := 16) (l := [15]) (s' := []) kr kr rfl kr (Rk_1 rfl rfl (Rk_1 rfl rfl (Rk_1 rfl rfl (Rk_ld _ rfl rfl rfl kr ((H.sm T213 hFB).cl.ld (o := 5) kr rfl) kr (Rk_1 rfl rfl Rk_nil))))) ?_
     obtain ⟨pa, xx, ia, ib, ic, id, ie⟩ := Ws.elem (P := Tryz.prog) (T := 39) (el := 52) kr kr kr (n := N) w213 hp .i64
     refine NS_ix _ rfl rfl kr kr kr kr (ia) (NS_nil ?_)
     obtain ⟨h214, e214, w214, t214, n214⟩ := ie v213 (oneS g213.sd).1 (oneS g213.sd).2
     obtain ⟨Y214, Z214⟩ := (X.ext U212).grow hp s213 g213 n213 t214 w214
     refine L_st _ rfl rfl rfl kr kr (e214) ?_
     have T214 : Sm (Tch hi B) h h214 := T213.trans t214 (fun b hb => .inl (.inl (by have hb : vb (VS none) = some b := hb; rw [X.b] at hb; cases hb; rfl)))
     have N214 := T214.nx
     refine L_nil ⟨rfl, ?_⟩
     refine D_l (l := []) kr kr Rk_nil (NS_nil (W_sg 1 kr (L_nil (W_ret ?_))))
     repeat first | with_reducible refine then_ret ?_ | with_reducible refine blk_ret ?_
     refine done_of (v := .bool true) (.inl rfl) kr ?_
     exact ⟨rfl, ups VS (some p) v213, ups_ne _ _ (by simp), Y214, T214⟩
    ·
     have hw0 : ¬ ((max (bgn S p (S p).length) (s1.e + C.c)) - (bgn S p (S p).length)) = 0 := of_decide_eq_false hb
     have hsp : sp4 s = [nv (bgn S p (S p).length), nv ((max (bgn S p (S p).length) (s1.e + C.c)) + C.r), nv ((max (bgn S p (S p).length) (s1.e + C.c)) - (bgn S p (S p).length)), nv 1] := by
      rw [← hs, sp4_of (fr := (max (bgn S p (S p).length) (s1.e + C.c))) hf1 rfl, if_neg hw0]
     refine W_skip (W_seq (W_drawn kr (D_e (e := 14) (l := [0,1,2,3,4,5,6,7,8,9,10,11,12,13]) (s' := [0,1,2,3,4]) kr kr rfl kr Rk_nil (NS_b 3 kr (NS_ld _ rfl rfl kr kr kr ((H.sm T210 hFB).cl.ld (o := 5) kr rfl) (NS_b 4 kr (NS_ld _ rfl rfl kr kr kr ((H.sm T210 hFB).cl.ld (o := 5) kr rfl) (NS_b 1 kr ?_))))))))
     obtain ⟨b1, o1, i1, l1⟩ := (X.ext U210).row (T := 39) (el := 52) kr kr kr hp
     refine NS_ix _ rfl rfl kr kr kr kr (i1) (NS_ld _ rfl rfl kr kr kr ((X.ext U210).rowLd (T := 39) (el := 52) kr kr kr hp i1) (NS_ld _ rfl rfl kr kr kr (Cl.allN (n := 4) c187 rfl kr) (NS_nwc [nv (bgn S p (S p).length), nv ((max (bgn S p (S p).length) (s1.e + C.c)) + C.r), nv ((max (bgn S p (S p).length) (s1.e + C.c)) - (bgn S p (S p).length)), nv 1] (.sl 1 1) rfl kr rfl rfl kr (Rk_1 rfl rfl (Rk_1 rfl rfl (Rk_1 rfl rfl (Rk_ld _ rfl rfl rfl kr ((H.sm (T210.ext (.push h210 _)) hFB).cl.ld (o := 5) kr rfl) kr (Rk_1 rfl rfl (Rk_1 rfl rfl (Rk_1 rfl rfl (Rk_1 rfl rfl (Rk_ld _ rfl rfl rfl kr ((H.sm (T210.ext (.push h210 _)) hFB).cl.ld (o := 5) kr rfl) kr (Rk_1 rfl rfl (Rk_1 rfl rfl (Rk_ld _ rfl rfl rfl kr ((X.ext (U210.ext (.push h210 _))).rowLd (T := 39) (el := 52) kr kr kr hp i1) kr (Rk_ld _ rfl rfl rfl kr (Cl.allN (n := 4) (c187.ext (.push h210 _)) rfl kr) kr (Rk_1 rfl rfl Rk_nil)))))))))))))) fun h215 c215 t215 n215 => ?_)))
     have T215 := T210.ext t215
     have U215 := U210.ext t215
     have N215 := T215.nx
     have NU215 := U215.nx
     refine NS_nil ?_
     obtain ⟨v216, h216, e216, g216, s216, n216⟩ := Gr.append (P := Tryz.prog) (sT := 52) (xT := 52) (el := 56) (by_ := 32) (z := .agg ⟨[nv 0, nv 0, nv 0, nv 0]⟩) (m := 1) (ds := sp4 s) kr kr kr kr kr kr (by decide) (show Gr h215 4 (VS (some p)) (S p).length ((S p).flatMap sp4) from (X.ext U215).lay.gr (some p)) (u := .slice (some ⟨h210.next, 0, none⟩) 1 1) (Cl.sdK (by decide) (by rw [hsp]; exact c215) rfl) sp4_one (by omega)
     have w216 := ((X.ext U215).lay.gr none).ws.sm s216 (fun b hb hx => by have := X.lay.inj none (some p) b hb hx; cases this)
     refine L_bi v216 h216 rfl rfl kr (vs := [VS (some p), .slice (some ⟨h210.next, 0, none⟩) 1 1]) kr (bi_append e216) ?_
     have T216 : Sm (Tch hi B) h h216 := T215.trans s216 (fun b hb => .inl (.inr (X.lo p b hb)))
     have N216 := T216.nx
     refine L_nil ⟨rfl, ?_⟩
     refine D_e (e := 16) (l := [15]) (s' := []) kr kr rfl kr (Rk_1 rfl rfl (Rk_1 rfl rfl (Rk_1 rfl rfl (Rk_ld _ rfl rfl rfl kr ((H.sm T216 hFB).cl.ld (o := 5) kr rfl) kr (Rk_1 rfl rfl Rk_nil))))) ?_
     obtain ⟨pa, xx, ia, ib, ic, id, ie⟩ := Ws.elem (P := Tryz.prog) (T := 39) (el := 52) kr kr kr (n := N) w216 hp .i64
     refine NS_ix _ rfl rfl kr kr kr kr (ia) (NS_nil ?_)
     obtain ⟨h217, e217, w217, t217, n217⟩ := ie v216 (oneS g216.sd).1 (oneS g216.sd).2
     obtain ⟨Y217, Z217⟩ := (X.ext U215).grow hp s216 g216 n216 t217 w217
     refine L_st _ rfl rfl rfl kr kr (e217) ?_
     have T217 : Sm (Tch hi B) h h217 := T216.trans t217 (fun b hb => .inl (.inl (by have hb : vb (VS none) = some b := hb; rw [X.b] at hb; cases hb; rfl)))
     have N217 := T217.nx
     refine L_nil ⟨rfl, ?_⟩
     refine D_l (l := []) kr kr Rk_nil (NS_nil (W_sg 1 kr (L_nil (W_ret ?_))))
     repeat first | with_reducible refine then_ret ?_ | with_reducible refine blk_ret ?_
     refine done_of (v := .bool true) (.inl rfl) kr ?_
     exact ⟨rfl, ups VS (some p) v216, ups_ne _ _ (by simp), Y217, T217⟩
   ·
    have n2 : ¬ x.k = 2 := of_decide_eq_false hb
    refine W_seq (W_region (L_i (x.k) (3) (.bool (decide (x.k = 3))) rfl rfl kr kr rfl (rfl) (L_g 1 kr (L_nil ?_))))
    refine W_cond (decide (x.k = 3)) kr (fun hb => ?_) (fun hb => ?_)
    ·
     have hk3 : x.k = 3 := of_decide_eq_true hb
     obtain ⟨c, ho, ha⟩ : ∃ c, opn L S x.n N = some (some c) ∧ a = (c.1, C.m, 2) := by
      unfold strt at ha
      rw [if_neg n1, if_neg n4, if_neg n2] at ha
      split at ha
      · rename_i c hc; cases ha; exact ⟨c, hc, rfl⟩
      · cases ha
     subst ha
     dsimp only at hst
     have hor : opR (opn L S x.n N) = .tuple ⟨[nv c.1, nv (c.2.1 : Int), .bool true]⟩ := by rw [ho]; rfl
     have hf1 : max (bgn S p (S p).length) c.1 = (bgn S p (S p).length) + max 0 (c.1 - (bgn S p (S p).length)) := by omega
     refine W_sg 2 kr (L_ld _ rfl rfl kr (c184.ld (o := 3) kr rfl) (L_c rfl rfl kr (hor ▸ ropen_ok (no := x.n) (H.sm T188 hFB) (X.ext U188) g hB9 hN9) ?_))
     rintro v218 h218 ⟨e218, t218⟩
     try dsimp only at e218
     try dsimp only at t218
     subst e218
     replace c187 := c187.ext t218
     have T218 := T188.ext t218
     have U218 := U188.ext t218
     have N218 := T218.nx
     have NU218 := U218.nx
     have M218 := t218.nx
     refine L_g 7 kr (L_nil (W_seq (W_sg 2 kr (L_nil ?_))))
     refine W_cond false kr (fun e => by cases e) (fun _ => ?_)
     refine W_skip (W_seq (W_drawn kr (D_e (e := 2) (l := [0,1,3,4,5,6,7]) (s' := [3,4,5,6,7]) kr kr rfl kr Rk_nil (NS_b 6 kr (NS_ld _ rfl rfl kr kr kr ((H.sm T218 hFB).cl.ld (o := 4) kr rfl) (NS_nil (L_bi (nv (max (bgn S p (S p).length) c.1)) h218 rfl rfl kr (vs := [nv (bgn S p (S p).length), nv c.1]) kr (max_two _ _ _ _ _) ?_)))))))
     refine L_nil ⟨rfl, ?_⟩
     refine D_l (l := [8,9]) kr kr (Rk_1 rfl rfl (Rk_1 rfl rfl (Rk_1 rfl rfl (Rk_1 rfl rfl (Rk_ld _ rfl rfl rfl kr ((H.sm T218 hFB).cl.ld (o := 4) kr rfl) kr Rk_nil))))) (NS_b 2 kr (NS_nil (W_region (L_g 1 kr ?_))))
     obtain ⟨h219, e219, d219, t219, n219⟩ := c187.store (P := Tryz.prog) (T := 3) (o := 3) (v := nv 2) kr rfl rfl (by simp)
     replace d219 : Cl h219 (h186.next) [nv (bgn S p (S p).length), nv 0, nv 0, nv 2] := d219
     replace c187 := d219
     have T219 := T218.tr t219
     have U219 := U218.tr t219
     have N219 := T219.nx
     have NU219 := U219.nx
     refine L_st _ rfl rfl rfl kr kr (e219) (L_nil (W_sg 2 kr (L_ld _ rfl rfl kr (c187.ld (o := 0) kr rfl) (L_i ((max (bgn S p (S p).length) c.1)) ((bgn S p (S p).length)) (nv ((max (bgn S p (S p).length) c.1) - (bgn S p (S p).length))) rfl rfl kr kr rfl (wrap_id (by omega) (by omega)) (L_g 2 kr (L_i ((max (bgn S p (S p).length) c.1)) (C.m) (nv ((max (bgn S p (S p).length) c.1) + C.m)) rfl rfl kr kr rfl (wrap_id (by omega) (by omega)) (L_g 1 kr ?_)))))))
     obtain ⟨h220, e220, d220, t220, n220⟩ := c187.store (P := Tryz.prog) (T := 3) (o := 2) (v := nv ((max (bgn S p (S p).length) c.1) - (bgn S p (S p).length))) kr rfl rfl (by simp)
     replace d220 : Cl h220 (h186.next) [nv (bgn S p (S p).length), nv 0, nv ((max (bgn S p (S p).length) c.1) - (bgn S p (S p).length)), nv 2] := d220
     replace c187 := d220
     have T220 := T219.tr t220
     have U220 := U219.tr t220
     have N220 := T220.nx
     have NU220 := U220.nx
     refine L_st _ rfl rfl rfl kr kr (e220) (L_g 1 kr ?_)
     obtain ⟨h221, e221, d221, t221, n221⟩ := c187.store (P := Tryz.prog) (T := 3) (o := 1) (v := nv ((max (bgn S p (S p).length) c.1) + C.m)) kr rfl rfl (by simp)
     replace d221 : Cl h221 (h186.next) [nv (bgn S p (S p).length), nv ((max (bgn S p (S p).length) c.1) + C.m), nv ((max (bgn S p (S p).length) c.1) - (bgn S p (S p).length)), nv 2] := d221
     replace c187 := d221
     have T221 := T220.tr t221
     have U221 := U220.tr t221
     have N221 := T221.nx
     have NU221 := U221.nx
     refine L_st _ rfl rfl rfl kr kr (e221) (L_nil (W_seq (W_sg 1 kr (L_ld _ rfl rfl kr (c187.ld (o := 2) kr rfl) (L_i (((max (bgn S p (S p).length) c.1) - (bgn S p (S p).length))) (0) (.bool (decide (((max (bgn S p (S p).length) c.1) - (bgn S p (S p).length)) = 0))) rfl rfl kr kr rfl (rfl) (L_nil ?_))))))
     refine W_cond (decide (((max (bgn S p (S p).length) c.1) - (bgn S p (S p).length)) = 0)) kr (fun hb => ?_) (fun hb => ?_)
     ·
      have hw0 : ((max (bgn S p (S p).length) c.1) - (bgn S p (S p).length)) = 0 := of_decide_eq_true hb
      have hsp : sp4 s = [nv (bgn S p (S p).length), nv ((max (bgn S p (S p).length) c.1) + C.m), nv ((max (bgn S p (S p).length) c.1) - (bgn S p (S p).length)), nv 0] := by
        rw [← hs, sp4_of (fr := (max (bgn S p (S p).length) c.1)) hf1 rfl, if_pos hw0]
      refine W_region (L_g 1 kr ?_)
      obtain ⟨h222, e222, d222, t222, n222⟩ := c187.store (P := Tryz.prog) (T := 3) (o := 3) (v := nv 0) kr rfl rfl (by simp)
      replace d222 : Cl h222 (h186.next) [nv (bgn S p (S p).length), nv ((max (bgn S p (S p).length) c.1) + C.m), nv ((max (bgn S p (S p).length) c.1) - (bgn S p (S p).length)), nv 0] := d222
      replace c187 := d222
      have T222 := T221.tr t222
      have U222 := U221.tr t222
      have N222 := T222.nx
      have NU222 := U222.nx
      refine L_st _ rfl rfl rfl kr kr (e222) (L_nil (W_seq (W_drawn kr (D_e (e := 14) (l := [0,1,2,3,4,5,6,7,8,9,10,11,12,13]) (s' := [0,1,2,3,4]) kr kr rfl kr Rk_nil (NS_b 3 kr (NS_ld _ rfl rfl kr kr kr ((H.sm T222 hFB).cl.ld (o := 5) kr rfl) (NS_b 4 kr (NS_ld _ rfl rfl kr kr kr ((H.sm T222 hFB).cl.ld (o := 5) kr rfl) (NS_b 1 kr ?_)))))))))
      obtain ⟨b1, o1, i1, l1⟩ := (X.ext U222).row (T := 39) (el := 52) kr kr kr hp
      refine NS_ix _ rfl rfl kr kr kr kr (i1) (NS_ld _ rfl rfl kr kr kr ((X.ext U222).rowLd (T := 39) (el := 52) kr kr kr hp i1) (NS_ld _ rfl rfl kr kr kr (Cl.allN (n := 4) c187 rfl kr) (NS_nwc [nv (bgn S p (S p).length), nv ((max (bgn S p (S p).length) c.1) + C.m), nv ((max (bgn S p (S p).length) c.1) - (bgn S p (S p).length)), nv 0] (.sl 1 1) rfl kr rfl rfl kr (Rk_1 rfl rfl (Rk_1 rfl rfl (Rk_1 rfl rfl (Rk_ld _ rfl rfl rfl kr ((H.sm (T222.ext (.push h222 _)) hFB).cl.ld (o := 5) kr rfl) kr (Rk_1 rfl rfl (Rk_1 rfl rfl (Rk_1 rfl rfl (Rk_1 rfl rfl (Rk_ld _ rfl rfl rfl kr ((H.sm (T222.ext (.push h222 _)) hFB).cl.ld (o := 5) kr rfl) kr (Rk_1 rfl rfl (Rk_1 rfl rfl (Rk_ld _ rfl rfl rfl kr ((X.ext (U222.ext (.push h222 _))).rowLd (T := 39) (el := 52) kr kr kr hp i1) kr (Rk_ld _ rfl rfl rfl kr (Cl.allN (n := 4) (c187.ext (.push h222 _)) rfl kr) kr (Rk_1 rfl rfl Rk_nil)))))))))))))) fun h223 c223 t223 n223 => ?_)))
      have T223 := T222.ext t223
      have U223 := U222.ext t223
      have N223 := T223.nx
      have NU223 := U223.nx
      refine NS_nil ?_
      obtain ⟨v224, h224, e224, g224, s224, n224⟩ := Gr.append (P := Tryz.prog) (sT := 52) (xT := 52) (el := 56) (by_ := 32) (z := .agg ⟨[nv 0, nv 0, nv 0, nv 0]⟩) (m := 1) (ds := sp4 s) kr kr kr kr kr kr (by decide) (show Gr h223 4 (VS (some p)) (S p).length ((S p).flatMap sp4) from (X.ext U223).lay.gr (some p)) (u := .slice (some ⟨h222.next, 0, none⟩) 1 1) (Cl.sdK (by decide) (by rw [hsp]; exact c223) rfl) sp4_one (by omega)
      have w224 := ((X.ext U223).lay.gr none).ws.sm s224 (fun b hb hx => by have := X.lay.inj none (some p) b hb hx; cases this)
      refine L_bi v224 h224 rfl rfl kr (vs := [VS (some p), .slice (some ⟨h222.next, 0, none⟩) 1 1]) kr (bi_append e224) ?_
      have T224 : Sm (Tch hi B) h h224 := T223.trans s224 (fun b hb => .inl (.inr (X.lo p b hb)))
      have N224 := T224.nx
      refine L_nil ⟨rfl, ?_⟩
      refine D_e (e := 16) (l := [15]) (s' := []) kr kr rfl kr (Rk_1 rfl rfl (Rk_1 rfl rfl (Rk_1 rfl rfl (Rk_ld _ rfl rfl rfl kr ((H.sm T224 hFB).cl.ld (o := 5) kr rfl) kr (Rk_1 rfl rfl Rk_nil))))) ?_
      obtain ⟨pa, xx, ia, ib, ic, id, ie⟩ := Ws.elem (P := Tryz.prog) (T := 39) (el := 52) kr kr kr (n := N) w224 hp .i64
      refine NS_ix _ rfl rfl kr kr kr kr (ia) (NS_nil ?_)
      obtain ⟨h225, e225, w225, t225, n225⟩ := ie v224 (oneS g224.sd).1 (oneS g224.sd).2
      obtain ⟨Y225, Z225⟩ := (X.ext U223).grow hp s224 g224 n224 t225 w225
      refine L_st _ rfl rfl rfl kr kr (e225) ?_
      have T225 : Sm (Tch hi B) h h225 := T224.trans t225 (fun b hb => .inl (.inl (by have hb : vb (VS none) = some b := hb; rw [X.b] at hb; cases hb; rfl)))
      have N225 := T225.nx
      refine L_nil ⟨rfl, ?_⟩
      refine D_l (l := []) kr kr Rk_nil (NS_nil (W_sg 1 kr (L_nil (W_ret ?_))))
      repeat first | with_reducible refine then_ret ?_ | with_reducible refine blk_ret ?_
      refine done_of (v := .bool true) (.inl rfl) kr ?_
      exact ⟨rfl, ups VS (some p) v224, ups_ne _ _ (by simp), Y225, T225⟩
     ·
      have hw0 : ¬ ((max (bgn S p (S p).length) c.1) - (bgn S p (S p).length)) = 0 := of_decide_eq_false hb
      have hsp : sp4 s = [nv (bgn S p (S p).length), nv ((max (bgn S p (S p).length) c.1) + C.m), nv ((max (bgn S p (S p).length) c.1) - (bgn S p (S p).length)), nv 2] := by
        rw [← hs, sp4_of (fr := (max (bgn S p (S p).length) c.1)) hf1 rfl, if_neg hw0]
      refine W_skip (W_seq (W_drawn kr (D_e (e := 14) (l := [0,1,2,3,4,5,6,7,8,9,10,11,12,13]) (s' := [0,1,2,3,4]) kr kr rfl kr Rk_nil (NS_b 3 kr (NS_ld _ rfl rfl kr kr kr ((H.sm T221 hFB).cl.ld (o := 5) kr rfl) (NS_b 4 kr (NS_ld _ rfl rfl kr kr kr ((H.sm T221 hFB).cl.ld (o := 5) kr rfl) (NS_b 1 kr ?_))))))))
      obtain ⟨b1, o1, i1, l1⟩ := (X.ext U221).row (T := 39) (el := 52) kr kr kr hp
      refine NS_ix _ rfl rfl kr kr kr kr (i1) (NS_ld _ rfl rfl kr kr kr ((X.ext U221).rowLd (T := 39) (el := 52) kr kr kr hp i1) (NS_ld _ rfl rfl kr kr kr (Cl.allN (n := 4) c187 rfl kr) (NS_nwc [nv (bgn S p (S p).length), nv ((max (bgn S p (S p).length) c.1) + C.m), nv ((max (bgn S p (S p).length) c.1) - (bgn S p (S p).length)), nv 2] (.sl 1 1) rfl kr rfl rfl kr (Rk_1 rfl rfl (Rk_1 rfl rfl (Rk_1 rfl rfl (Rk_ld _ rfl rfl rfl kr ((H.sm (T221.ext (.push h221 _)) hFB).cl.ld (o := 5) kr rfl) kr (Rk_1 rfl rfl (Rk_1 rfl rfl (Rk_1 rfl rfl (Rk_1 rfl rfl (Rk_ld _ rfl rfl rfl kr ((H.sm (T221.ext (.push h221 _)) hFB).cl.ld (o := 5) kr rfl) kr (Rk_1 rfl rfl (Rk_1 rfl rfl (Rk_ld _ rfl rfl rfl kr ((X.ext (U221.ext (.push h221 _))).rowLd (T := 39) (el := 52) kr kr kr hp i1) kr (Rk_ld _ rfl rfl rfl kr (Cl.allN (n := 4) (c187.ext (.push h221 _)) rfl kr) kr (Rk_1 rfl rfl Rk_nil)))))))))))))) fun h226 c226 t226 n226 => ?_)))
      have T226 := T221.ext t226
      have U226 := U221.ext t226
      have N226 := T226.nx
      have NU226 := U226.nx
      refine NS_nil ?_
      obtain ⟨v227, h227, e227, g227, s227, n227⟩ := Gr.append (P := Tryz.prog) (sT := 52) (xT := 52) (el := 56) (by_ := 32) (z := .agg ⟨[nv 0, nv 0, nv 0, nv 0]⟩) (m := 1) (ds := sp4 s) kr kr kr kr kr kr (by decide) (show Gr h226 4 (VS (some p)) (S p).length ((S p).flatMap sp4) from (X.ext U226).lay.gr (some p)) (u := .slice (some ⟨h221.next, 0, none⟩) 1 1) (Cl.sdK (by decide) (by rw [hsp]; exact c226) rfl) sp4_one (by omega)
      have w227 := ((X.ext U226).lay.gr none).ws.sm s227 (fun b hb hx => by have := X.lay.inj none (some p) b hb hx; cases this)
      refine L_bi v227 h227 rfl rfl kr (vs := [VS (some p), .slice (some ⟨h221.next, 0, none⟩) 1 1]) kr (bi_append e227) ?_
      have T227 : Sm (Tch hi B) h h227 := T226.trans s227 (fun b hb => .inl (.inr (X.lo p b hb)))
      have N227 := T227.nx
      refine L_nil ⟨rfl, ?_⟩
      refine D_e (e := 16) (l := [15]) (s' := []) kr kr rfl kr (Rk_1 rfl rfl (Rk_1 rfl rfl (Rk_1 rfl rfl (Rk_ld _ rfl rfl rfl kr ((H.sm T227 hFB).cl.ld (o := 5) kr rfl) kr (Rk_1 rfl rfl Rk_nil))))) ?_
      obtain ⟨pa, xx, ia, ib, ic, id, ie⟩ := Ws.elem (P := Tryz.prog) (T := 39) (el := 52) kr kr kr (n := N) w227 hp .i64
      refine NS_ix _ rfl rfl kr kr kr kr (ia) (NS_nil ?_)
      obtain ⟨h228, e228, w228, t228, n228⟩ := ie v227 (oneS g227.sd).1 (oneS g227.sd).2
      obtain ⟨Y228, Z228⟩ := (X.ext U226).grow hp s227 g227 n227 t228 w228
      refine L_st _ rfl rfl rfl kr kr (e228) ?_
      have T228 : Sm (Tch hi B) h h228 := T227.trans t228 (fun b hb => .inl (.inl (by have hb : vb (VS none) = some b := hb; rw [X.b] at hb; cases hb; rfl)))
      have N228 := T228.nx
      refine L_nil ⟨rfl, ?_⟩
      refine D_l (l := []) kr kr Rk_nil (NS_nil (W_sg 1 kr (L_nil (W_ret ?_))))
      repeat first | with_reducible refine then_ret ?_ | with_reducible refine blk_ret ?_
      refine done_of (v := .bool true) (.inl rfl) kr ?_
      exact ⟨rfl, ups VS (some p) v227, ups_ne _ _ (by simp), Y228, T228⟩
    ·
     have n3 : ¬ x.k = 3 := of_decide_eq_false hb
     exfalso
     omega--end
end
end Go.Proofs.YtjhbbdfbngbjcaaGreatDoor
