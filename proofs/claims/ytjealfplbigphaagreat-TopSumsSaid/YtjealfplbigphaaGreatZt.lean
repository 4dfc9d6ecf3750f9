/- Worlds of the program and walks of its functions. -/
import Derived.Test.YtjealfplbigphaaGreatZs
import Derived.Test.YtjealfplbigphaaGreatZi
namespace Go.Proofs.YtjealfplbigphaaGreat
noncomputable section
open Go Go.X Go.Arm Go.Mt Go.Nu
set_option maxHeartbeats 2000000 in
theorem top_ok {h : AH} {sl sp sq : Value} {l : List Nat} {par oth : By} {E : Nat} (HL : Sd h 1 sl l.length (l.map uv)) (HP : Rb h sp (par.map bv)) (HQ : Rb h sq (oth.map bv)) (hx : ∀ i, l.getD i 0 < BB) (hE : E < 256) :
  Arm.Calls Tryz.prog 3 [sl, sp, sq, .int .u8 (E : Int)] h (fun r => r.1 = .bool true) := by
 refine j9 94 Tryz.f3 ?_
 have T0 : Sm Nix h h := .refl
 refine z1 1 kr (q5 (q7 (q6 (L_cy (uv 4877398396442247168) rfl rfl (args := [.float .f64 4877398396442247168]) kr kr (L_cy (uv 4607182418800017408) rfl rfl (args := [.float .f64 4607182418800017408]) kr kr (L_cy (uv 14100770433297022976) rfl rfl (args := [.float .f64 14100770433297022976]) kr kr (Q1 [uv 4877398396442247168, uv 4607182418800017408, uv 14100770433297022976] (.sl 3 3) rfl rfl kr fun h301 c301 t301 n301 => ?_)))))))
 have T301 := T0.ext t301
 have N301 := T301.nx
 refine Q1 [.int .u8 0, .int .u8 1] (.sl 2 2) rfl rfl kr fun h302 c302 t302 n302 => ?_
 replace c301 := c301.ext t302
 have T302 := T301.ext t302
 have N302 := T302.nx
 refine L_c rfl rfl kr (zq4 (l := [4877398396442247168,4607182418800017408,14100770433297022976]) (par := [0, 1]) (E := 0) (c301.sd (n := 3) rfl) (show Rb _ _ (([0, 1] : By).map bv) from (c302.sd (n := 2) rfl).rb) (by decide) (by decide) ex_lt (by decide) (by decide)) ?_
 rintro v303 h303 ⟨e303, t303⟩
 try dsimp only at e303 t303
 subst e303
 rw [jj4]
 have T303 := T302.ext t303
 have N303 := T303.nx
 have M303 := t303.nx
 refine L_g 5 kr (q5 (q7 (z1 4 kr (u9 kr (L_cy (uv 4607182418800017408) rfl rfl (args := [.float .f64 4607182418800017408]) kr kr (u9 kr (L_p (.bool false) rfl (Go.Arm.ev_bin (o := _) rfl kr kr (ne_u (a := 4607182418800017408) (b := 4607182418800017408) (by decide))) (L_g 1 kr (q5 ?_)))))))))
 refine Q2 kr (z6 (q7 (q7 ?_)))
 obtain h0 | h0 | h0 : l.length < 1 ∨ (1 ≤ l.length /\ 12 < l.length) ∨ (1 ≤ l.length /\ l.length ≤ 12) := by omega
 ·
  refine Z3 1 kr (V4 _ rfl rfl kr ((HL.ext T303).len (T := 22) (el := 24) kr) (L_i ((l.length : Int)) (1) (.bool true) rfl rfl kr kr rfl (congrArg Value.bool (decide_eq_true (by omega))) (L_g 5 kr (q5 (U7 kr (z1 1 kr (q5 (j7 ?_))))))))
  refine rr ?_
  refine z0 (v := .bool true) (.inl rfl) kr ?_
  exact rfl
 ·
  refine Z3 1 kr (V4 _ rfl rfl kr ((HL.ext T303).len (T := 22) (el := 24) kr) (L_i ((l.length : Int)) (1) (.bool false) rfl rfl kr kr rfl (congrArg Value.bool (decide_eq_false (by omega))) (L_g 2 kr (u9 kr (V4 _ rfl rfl kr ((HL.ext T303).len (T := 22) (el := 24) kr) (u9 kr (L_i ((l.length : Int)) (12) (.bool true) rfl rfl kr kr rfl (congrArg Value.bool (decide_eq_true (by omega))) (L_g 1 kr (q5 (U7 kr ?_))))))))))
  refine z1 1 kr (q5 (j7 ?_))
  refine rr ?_
  refine z0 (v := .bool true) (.inl rfl) kr ?_
  exact rfl
 ·
  refine Z3 1 kr (V4 _ rfl rfl kr ((HL.ext T303).len (T := 22) (el := 24) kr) (L_i ((l.length : Int)) (1) (.bool false) rfl rfl kr kr rfl (congrArg Value.bool (decide_eq_false (by omega))) (L_g 2 kr (u9 kr (V4 _ rfl rfl kr ((HL.ext T303).len (T := 22) (el := 24) kr) (u9 kr (L_i ((l.length : Int)) (12) (.bool false) rfl rfl kr kr rfl (congrArg Value.bool (decide_eq_false (by omega))) (L_g 1 kr (q5 (Q2 kr ?_))))))))))
  refine z6 (z1 1 kr (q5 (q7 (z1 1 kr (V4 _ rfl rfl kr ((HL.ext T303).len (T := 22) (el := 24) kr) (L_g 1 kr (q5 ?_)))))))
  refine u3 ?_
  refine J5 (fun mm fr hh => ∃ (i : Nat) (vv : Value), (i ≤ l.length) /\ (Gr hh 2 vv i (vcs (l.take i))) /\ (∀ q, vb vv = some q -> h.next ≤ q) /\ mm = l.length - i /\ fr 0 = sl /\ fr 1 = sp /\ fr 2 = sq /\ fr 3 = .int .u8 (E : Int) /\ fr 11 = vv /\ fr 43 = sl /\ fr 44 = nv (l.length : Int) /\ fr 45 = nv (i : Int) /\ Sm Nix h hh) (l.length) ?_ ?_
  ·
   exact ⟨0, _, (Nat.zero_le _), Gr.nil, (fun q hq => by cases hq), rfl, kr, kr, kr, kr, kr, kr, kr, kr, T303⟩
  rintro mm304 fr304 h304 ⟨i, vv, hi, GV, hvb, hm304, y304_0, y304_1, y304_2, y304_3, y304_11, y304_43, y304_44, y304_45, T304⟩
  have N304 := T304.nx
  refine j8 (k := 0) y304_0 (j8 (k := 1) y304_1 (j8 (k := 2) y304_2 (j8 (k := 3) y304_3 (j8 (k := 11) y304_11 (j8 (k := 43) y304_43 (j8 (k := 44) y304_44 (j8 (k := 45) y304_45 (q7 (q6 (L_i ((i : Int)) ((l.length : Int)) (.bool (decide ((i : Int) < (l.length : Int)))) rfl rfl kr kr rfl (rfl) (q5 ?_)))))))))))
  refine q7 ?_
  refine Q0 (decide ((i : Int) < (l.length : Int))) kr (fun hb => ?_) (fun hb => ?_)
  ·
   have hlt : i < l.length := by simp at hb; omega
   refine z6 (q7 (u3 (q7 (q6 ?_))))
   obtain ⟨be, oe, ve, ie, le⟩ := (HL.ext T304).at (P := Tryz.prog) (T := 22) (el := 24) kr kr hlt .i64
   refine Z8 _ rfl rfl kr kr (ie) (z9 _ rfl rfl kr (K5 kr ((le 0 (by decide)).trans (uz4 hlt))) (L_g 1 kr (q5 (Z3 2 kr (L_p (.agg ⟨[uv (l.getD i 0), nv 0]⟩) rfl kr (Q1 [uv (l.getD i 0), nv 0] (.sl 1 1) rfl rfl kr fun h305 c305 t305 n305 => ?_))))))
   have T305 := T304.ext t305
   have N305 := T305.nx
   obtain ⟨v306, h306, e306, g306, t306, f306⟩ := (GV.ext t305).append (P := Tryz.prog) (sT := 29) (xT := 29) (el := 31) (by_ := 16) (z := .agg ⟨[.int .u64 0, nv 0]⟩) (m := 1) (ds := [uv (l.getD i 0), nv 0]) kr kr kr kr kr rfl (by decide) (xj1 2 c305 rfl) (List.all_eq_true.1 rfl) (by omega)
   rw [jv5 hlt] at g306
   have f9306 : ∀ q, vb v306 = some q -> h.next ≤ q := fun q hq => (f306 q hq).elim (hvb q) (fun e => Nat.le_trans (T305).nx e)
   refine V9 v306 h306 rfl rfl kr (vs := [vv, .slice (some ⟨h304.next, 0, none⟩) 1 1]) kr (uu9 e306) ?_
   replace c305 := c305
   have T306 : Sm Nix h h306 := T305.trans t306 (fun x hx => .inr (hvb x hx))
   have N306 := T306.nx
   refine L_g 1 kr (q5 (q6 (L_i ((i : Int)) (1) (nv ((i + 1 : Nat) : Int)) rfl rfl kr kr rfl (Z4 (by omega)) (L_g 1 kr (q5 ?_)))))
   exact ⟨l.length - (i + 1), by omega, i + 1, _, (by omega), g306, f9306, rfl, kr, kr, kr, kr, kr, kr, kr, kr, T306⟩
  ·
   have hge : i = l.length := by simp at hb; omega
   subst hge
   rw [List.take_length] at GV
   refine J8 ?_
   refine rx ?_
   refine Q7 (z1 1 kr (L_c rfl rfl kr (xy1 (l := l) GV.sd (by omega) h0.2 hx) ?_))
   rintro v307 h307 ⟨e307, t307⟩
   try dsimp only at e307 t307
   subst e307
   have T307 := T304.ext t307
   have N307 := T307.nx
   have M307 := t307.nx
   refine L_g 3 kr (Q1 [.int .u64 0, nv 0] .ptr rfl rfl kr fun h308 c308 t308 n308 => ?_)
   have T308 := T307.ext t308
   have N308 := T308.nx
   obtain ⟨h309, e309, d309, t309, n309⟩ := c308.sA 31 [uv (sumL l).val, nv 0]
   replace c308 := d309
   have T309 := T308.tr t309
   have N309 := T309.nx
   refine Q3 _ rfl rfl rfl kr kr (e309) (L_g 1 kr (q5 (z1 3 kr (L_p (nv (E : Int)) rfl (Go.Arm.ev_conv (o := _) rfl kr (K3 hE)) (L_c rfl rfl kr (zq4 (l := l) (par := par) (E := (E : Int)) (HL.ext T309) (HP.ext T309) (by omega) h0.2 hx (by omega) (by omega)) ?_)))))
   rintro v310 h310 ⟨e310, t310⟩
   try dsimp only at e310 t310
   subst e310
   replace c308 := c308.ext t310
   have T310 := T309.ext t310
   have N310 := T310.nx
   have M310 := t310.nx
   refine L_g 5 kr (q5 (z1 2 kr (L_c rfl rfl kr (zq4 (l := l) (par := oth) (E := 0) (HL.ext T310) (HQ.ext T310) (by omega) h0.2 hx (by decide) (by decide)) ?_)))
   rintro v311 h311 ⟨e311, t311⟩
   try dsimp only at e311 t311
   subst e311
   replace c308 := c308.ext t311
   have T311 := T310.ext t311
   have N311 := T311.nx
   have M311 := t311.nx
   refine L_g 5 kr (q5 (z1 11 kr (u9 kr (z9 _ rfl rfl kr (c308.ld (o := 0) kr rfl) (u9 kr (L_p (.bool true) rfl (Go.Arm.ev_bin (o := _) rfl kr kr (yk8 (a := (sumL l).val) (b := (sumL l).val) (by simp))) (L_g 4 kr (u9 kr (z9 _ rfl rfl kr (c308.ld (o := 0) kr rfl) ?_)))))))))
   refine u9 kr (L_p (.bool true) rfl (Go.Arm.ev_bin (o := _) rfl kr kr (yk8 (a := (sumL l).val) (b := (sumL l).val) (by simp))) (L_g 2 kr (q5 (j7 ?_))))
   refine rr ?_
   refine z0 (v := .bool true) (.inl rfl) kr ?_
   exact rfl
end
end Go.Proofs.YtjealfplbigphaaGreat

