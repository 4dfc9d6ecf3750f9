/- A part of the walks of profiles. -/
import Derived.Test.YtjhbbdfbngbjcaaGreatDoorYm
import Derived.Test.YtjhbbdfbngbjcaaGreatDoorYo
namespace Go.Proofs.YtjhbbdfbngbjcaaGreatDoor
noncomputable section
open Go Go.X Go.Arm
section
variable (N : Nat) (L : Lf) (C : TC)
def Mn : Nat := if errT N L C = 0 then N else 0
def En : Int := if errT N L C = 0 then endV (lastT (timesS N L C) N) else 0
noncomputable def Pn : List (Nat × Nat) := if errT N L C = 0 then (pathT N L (timesS N L C)).reverse else []
def Bl : List Int := if errT N L C = 0 then blmA N L (timesS N L C) N else []
end
def PU (N : Nat) (L : Lf) (C : TC) (h : AH) (r : Value × AH) : Prop := ∃ (sa : Option Addr) (sc : Nat) (pa : Option Addr) (pc : Nat) (wa : Option Addr) (wc : Nat) (V : Nat → Value),
 r.1 = .tuple ⟨[.agg ⟨[.slice sa (Mn N L C) sc, nv (En N L C), .slice pa (Pn N L C).length pc, .slice wa (Mn N L C) wc]⟩, nv (errT N L C)]⟩ ∧ Sm Nix h r.2 ∧ Sd r.2 1 (.slice sa (Mn N L C) sc) (Mn N L C) ((List.range (Mn N L C)).map V) ∧
 (∀ p, p < Mn N L C → Sd r.2 4 (V p) (timesS N L C p).length ((timesS N L C p).flatMap sp4)) ∧ Sd r.2 2 (.slice pa (Pn N L C).length pc) (Pn N L C).length ((Pn N L C).flatMap st2) ∧
 Sd r.2 2 (.slice wa (Mn N L C) wc) (Mn N L C) (((List.range (Mn N L C)).map fun q => waitsT (timesS N L C q)).flatMap w2)
theorem pu_of {N : Nat} {L : Lf} {C : TC} {h : AH} : ∀ r, PRes N L C h r → PU N L C h r := by
 rintro r (⟨he, e, t⟩ | ⟨he, hi, B, VS, pv, wv, e, X, g1, g2, t⟩)
 · have hM : Mn N L C = 0 := by unfold Mn; rw [if_neg he]
   have hE : En N L C = 0 := by unfold En; rw [if_neg he]
   have hP : Pn N L C = [] := by unfold Pn; rw [if_neg he]
   unfold PU
   rw [hM, hE, hP]
   exact ⟨none, 0, none, 0, none, 0, fun _ => nilS, e, t, Sd.nil, fun p hp => by omega, Sd.nil, Sd.nil⟩
 · have hM : Mn N L C = N := by unfold Mn; rw [if_pos he]
   have hE : En N L C = endV (lastT (timesS N L C) N) := by unfold En; rw [if_pos he]
   have hP : Pn N L C = (pathT N L (timesS N L C)).reverse := by unfold Pn; rw [if_pos he]
   have hPl : (pathT N L (timesS N L C)).length = (pathT N L (timesS N L C)).reverse.length := by simp
   rw [hPl] at g1
   obtain ⟨pa, pc, rfl⟩ := g1.form
   obtain ⟨wa, wc, rfl⟩ := g2.form
   have g0 : Sd r.2 1 (VS none) N ((List.range N).map fun p => VS (some p)) := (X.lay.gr none).ws.sd
   rw [X.b] at g0
   unfold PU
   rw [hM, hE, hP]
   exact ⟨_, _, pa, pc, wa, wc, fun p => VS (some p), by rw [e, he], t, g0, fun p hp => (X.lay.gr (some p)).ws.sd, g1, g2⟩
def BU (N : Nat) (L : Lf) (C : TC) (h : AH) (r : Value × AH) : Prop := ∃ (oa : Option Addr) (oc : Nat), r.1 = .tuple ⟨[.slice oa (Bl N L C).length oc, nv (errT N L C)]⟩ ∧ Sm Nix h r.2 ∧ Sd r.2 1 (.slice oa (Bl N L C).length oc) (Bl N L C).length ((Bl N L C).map nv)
theorem bu_of {N : Nat} {L : Lf} {C : TC} {h : AH} : ∀ r, BRes N L C h r → BU N L C h r := by
 rintro r (⟨he, e, t⟩ | ⟨he, ov, e, g, t⟩)
 · have hB : Bl N L C = [] := by unfold Bl; rw [if_neg he]
   unfold BU
   rw [hB]
   exact ⟨none, 0, e, t, Sd.nil⟩
 · have hB : Bl N L C = blmA N L (timesS N L C) N := by unfold Bl; rw [if_pos he]
   have hl : N = (blmA N L (timesS N L C) N).length := (blmA_len N).symm
   unfold BU
   rw [hB]
   obtain ⟨oa, oc, rfl⟩ := g.form
   refine ⟨oa, oc, ?_, t, ?_⟩
   · rw [e, he, ← hl]
   · rw [← hl]; exact g
theorem ev_bin {Q : Program} {n : Nat} {f : Fr} {h : AH} {o : Oper} {op : BinOp} {T T' : TypeId} {x y : Operand} {a b v : Value} (hop : o.op = .binOp op T x y T') (hx : ev n f x = some a) (hy : ev n f y = some b) (hv : aBin Q op T x y a b h = some v) : evVal Q n f h o.op = some v := by
 rw [hop]
 simp only [evVal, hx, hy]
 exact hv
theorem works_ok {h : AH} : Arm.Calls Tryz.prog 4 [] h (fun r => r = (.bool true, h)) := ⟨_, eRun_known (P := Tryz.prog) rfl h rfl, fun a ha => by cases List.mem_singleton.1 ha; rfl⟩
def VT0 (v : Value) (W : Nat → Value) : Option Nat → Value
 | none => v
 | some q => W q
theorem rng_snoc (W : Nat → Value) (p : Nat) (w : Value) : (List.range (p + 1)).map (ups W p w) = (List.range p).map W ++ [w] := by
 rw [List.range_succ, List.map_append, List.map_cons, List.map_nil, ups_at]
 congr 1
 refine List.map_congr_left fun q hq => ?_
 have := List.mem_range.1 hq
 rw [ups_ne _ _ (by omega)]
theorem ev6_one {x : TE} : ∀ v, v ∈ ev6 x → v.oneCell' = true := by
 intro v hv
 unfold ev6 at hv
 simp only [List.mem_cons, List.not_mem_nil, or_false] at hv
 rcases hv with rfl | rfl | rfl | rfl | rfl | rfl <;> rfl
theorem eq_pair (a : Int × Int) : pureRun Tryz.prog (Op.equal 53 (.agg ⟨w2 a⟩) (.agg ⟨w2 a⟩)) = some true := by
 have hu : Tryz.prog.underlying 53 = some (.array 2 3) := by kernel_rfl
 have hi : Tryz.prog.underlying 3 = some (.int .i64) := by kernel_rfl
 have q1 : ∀ x : Int, pureRun Tryz.prog (Op.equalIn 9999 3 (nv x) (nv x)) = some true := fun x => by
  have := eqIn_int (P := Tryz.prog) 9998 3 .i64 .i64 x x hi
  rw [show (x == x) = true by simp] at this
  exact this
 unfold Op.equal
 show pureRun _ (Op.equalIn (9999 + 1) _ _ _) = _
 rw [Op.equalIn]
 refine pureRun_and (pr_un hu) ?_
 dsimp only
 refine pureRun_and (a := 1) kr ?_
 have p0 : pureRun Tryz.prog (part 3 ⟨w2 a⟩ (0 * 1)) = some (nv a.1) := by kernel_rfl
 have p1 : pureRun Tryz.prog (part 3 ⟨w2 a⟩ (1 * 1)) = some (nv a.2) := by kernel_rfl
 rw [Std.Legacy.Range.forIn_eq_forIn_range']
 show pureRun _ (forIn [0, 1] _ _ >>= _) = _
 simp only [List.forIn_cons, List.forIn_nil]
 exact pureRun_and (a := (none, ())) (pureRun_and (a := ForInStep.yield (none, ())) (pureRun_and p0 (pureRun_and p0 (pureRun_and (q1 _) rfl))) (pureRun_and (a := ForInStep.yield (none, ())) (pureRun_and p1 (pureRun_and p1 (pureRun_and (q1 _) rfl))) rfl)) rfl
theorem agg_neq (T : TypeId) (x y : Array Value) : binOp .neq T (.agg x) (.agg y) = (Op.equal T (.agg x) (.agg y) >>= fun b => pure (.bool (!b))) := rfl
theorem neq_pair (a : Int × Int) (h : AH) (xo yo : Operand) : aBin Tryz.prog .neq 53 xo yo (.agg ⟨w2 a⟩) (.agg ⟨w2 a⟩) h = some (.bool false) := by
 have hu : Tryz.prog.underlying 53 = some (.array 2 3) := by kernel_rfl
 have e1 : aBinV Tryz.prog .neq 53 (.agg ⟨w2 a⟩) (.agg ⟨w2 a⟩) h = none := by
  unfold aBinV aEqV
  simp only [hu]
 unfold aBin
 simp only [e1]
 have e2 : pureRun Tryz.prog (eqGuard .neq 53 xo yo (.agg ⟨w2 a⟩) (.agg ⟨w2 a⟩)) = some () := by kernel_rfl
 have e3 : pureRun Tryz.prog (binOp .neq 53 (.agg ⟨w2 a⟩) (.agg ⟨w2 a⟩)) = some (.bool false) := by
  rw [agg_neq]
  exact pureRun_and (a := true) (eq_pair a) rfl
 have e4 : pureRun Tryz.prog (eqGuard .neq 53 xo yo (.agg ⟨w2 a⟩) (.agg ⟨w2 a⟩) >>= fun _ => binOp .neq 53 (.agg ⟨w2 a⟩) (.agg ⟨w2 a⟩)) = some (.bool false) := pureRun_and (a := ()) e2 e3
 have e5 : pfv (.agg ⟨w2 a⟩) = true := by kernel_rfl
 rw [e5]
 unfold aPure
 rw [if_pos (by rfl)]
 generalize hq : pureRun Tryz.prog _ = q
 have : q = some (.bool false) := by rw [← hq]; exact e4
 rw [this]
 rfl
theorem events_ok {h : AH} {v : Value} {l : List TE} (G : Sd h 6 v l.length (l.flatMap ev6)) (hN : l.length < 1000000) :
  Arm.Calls Tryz.prog 5 [v] h (fun r => Gr r.2 6 r.1 l.length (l.flatMap ev6) ∧ Sm Nix h r.2 ∧ ∀ b, vb r.1 = some b → h.next ≤ b) := by
 refine Calls_W 46 Tryz.f5 ?_
 have T0 : Sm Nix h h := .refl
 refine W_sg 1 kr (L_nil (W_sg 1 kr (L_nil (W_seq (W_seq (W_region (L_g 1 kr ?_)))))))
 refine L_nil (W_block ?_)
 refine W_loop (fun mm fr hh => ∃ (i : Nat) (pa : Option Addr) (pc : Nat), (i ≤ l.length) ∧ (Gr hh 6 (.slice pa i pc) i ((l.take i).flatMap ev6)) ∧ (∀ b, vb (.slice pa i pc) = some b → h.next ≤ b) ∧ mm = l.length - i ∧ fr 0 = v ∧ fr 3 = .slice pa i pc ∧ fr 4 = nv (i : Int) ∧ Sm Nix h hh) (l.length) ?_ ?_
 ·
  exact ⟨0, none, 0, Nat.zero_le _, Gr.nil, (fun b hb => by cases hb), rfl, kr, kr, kr, T0⟩
 rintro mm299 fr299 h299 ⟨i, pa, pc, hi, Gp, hpb, hm299, y299_0, y299_3, y299_4, T299⟩
 have N299 := T299.nx
 refine W_set (k := 0) y299_0 (W_set (k := 3) y299_3 (W_set (k := 4) y299_4 ?_))
 have W299 : Sm Nix h299 h299 := .refl
 refine W_seq (W_sg 2 kr (L_ln _ rfl rfl kr ((G.ext T299).len (T := 27) (el := 83) kr) (L_g 1 kr (L_nil ?_))))
 refine W_cond (decide ((i : Int) < (l.length : Nat))) kr (fun hb => ?_) (fun hb => ?_)
 ·
  have hlt : i < l.length := by simp at hb; omega
  obtain ⟨x, hx⟩ : ∃ x, l[i]? = some x := ⟨_, List.getElem?_eq_getElem hlt⟩
  obtain ⟨b4, o4, i4, l4⟩ := ev_at (P := Tryz.prog) (T := 27) (el := 83) kr kr (G.ext T299) hx
  refine W_skip (W_seq (W_block (W_drawn kr (D_e (e := 33) (l := [0,1,2,3,4,5,6,7,8,9,10,11,12,13,14,15,16,17,18,19,20,21,22,23,24,25,26,27,28,29,30,31,32]) (s' := []) kr kr rfl kr Rk_nil (NS_b 3 kr (NS_ix _ rfl rfl kr kr kr kr (i4) (NS_b 1 kr (NS_ld _ rfl rfl kr kr kr (ld_cell kr (evS_cell (T := 27) (el := 83) (G.ext T299) kr kr hx i4 (j := 0) (by decide))) (NS_b 2 kr (NS_ix _ rfl rfl kr kr kr kr (i4) (NS_b 1 kr ?_)))))))))))
  refine NS_ld _ rfl rfl kr kr kr (ld_cell kr (evS_cell (T := 27) (el := 83) (G.ext T299) kr kr hx i4 (j := 1) (by decide))) (NS_b 2 kr (NS_ix _ rfl rfl kr kr kr kr (i4) (NS_b 1 kr (NS_ld _ rfl rfl kr kr kr (ld_cell kr (evS_cell (T := 27) (el := 83) (G.ext T299) kr kr hx i4 (j := 2) (by decide))) (NS_b 2 kr (NS_ix _ rfl rfl kr kr kr kr (i4) (NS_b 1 kr (NS_ld _ rfl rfl kr kr kr (ld_cell kr (evS_cell (T := 27) (el := 83) (G.ext T299) kr kr hx i4 (j := 3) (by decide))) (NS_b 2 kr (NS_ix _ rfl rfl kr kr kr kr (i4) (NS_b 1 kr ?_)))))))))))
  refine NS_ld _ rfl rfl kr kr kr (ld_cell kr (evS_cell (T := 27) (el := 83) (G.ext T299) kr kr hx i4 (j := 4) (by decide))) (NS_b 2 kr (NS_ix _ rfl rfl kr kr kr kr (i4) (NS_b 1 kr (NS_ld _ rfl rfl kr kr kr (ld_cell kr (evS_cell (T := 27) (el := 83) (G.ext T299) kr kr hx i4 (j := 5) (by decide))) (NS_b 1 kr (NS_nwc (ev6 x) (.sl 1 1) rfl kr rfl rfl kr (Rk_1 rfl rfl (Rk_1 rfl rfl (Rk_1 rfl rfl (Rk_1 rfl rfl (Rk_1 rfl rfl (Rk_ld _ rfl rfl rfl kr (ld_cell kr (evS_cell (T := 27) (el := 83) (G.ext (T299.ext (.push h299 _))) kr kr hx i4 (j := 0) (by decide))) kr (Rk_1 rfl rfl (Rk_1 rfl rfl (Rk_1 rfl rfl (Rk_1 rfl rfl (Rk_ld _ rfl rfl rfl kr (ld_cell kr (evS_cell (T := 27) (el := 83) (G.ext (T299.ext (.push h299 _))) kr kr hx i4 (j := 1) (by decide))) kr (Rk_1 rfl rfl (Rk_1 rfl rfl (Rk_1 rfl rfl (Rk_1 rfl rfl (Rk_ld _ rfl rfl rfl kr (ld_cell kr (evS_cell (T := 27) (el := 83) (G.ext (T299.ext (.push h299 _))) kr kr hx i4 (j := 2) (by decide))) kr (Rk_1 rfl rfl (Rk_1 rfl rfl (Rk_1 rfl rfl (Rk_1 rfl rfl (Rk_ld _ rfl rfl rfl kr (ld_cell kr (evS_cell (T := 27) (el := 83) (G.ext (T299.ext (.push h299 _))) kr kr hx i4 (j := 3) (by decide))) kr (Rk_1 rfl rfl (Rk_1 rfl rfl (Rk_1 rfl rfl (Rk_1 rfl rfl (Rk_ld _ rfl rfl rfl kr (ld_cell kr (evS_cell (T := 27) (el := 83) (G.ext (T299.ext (.push h299 _))) kr kr hx i4 (j := 4) (by decide))) kr (Rk_1 rfl rfl (Rk_1 rfl rfl (Rk_1 rfl rfl (Rk_1 rfl rfl (Rk_ld _ rfl rfl rfl kr (ld_cell kr (evS_cell (T := 27) (el := 83) (G.ext (T299.ext (.push h299 _))) kr kr hx i4 (j := 5) (by decide))) kr (Rk_1 rfl rfl (Rk_1 rfl rfl Rk_nil))))))))))))))))))))))))))))))))) fun h300 c300 t300 n300 => ?_))))))
  have T300 := T299.ext t300
  have W300 := W299.ext t300
  have N300 := T300.nx
  have NW300 := W300.nx
  refine NS_nil ?_
  obtain ⟨v301, h301, e301, g301, s301, n301⟩ := Gr.append (P := Tryz.prog) (sT := 28) (xT := 28) (el := 59) (by_ := 48) (z := .agg ⟨ev6 ⟨0, 0, 0, 0, 0, false⟩⟩) (m := 1) (ds := ev6 x) kr kr kr kr kr kr (by decide) (Gp.ext W300) (u := .slice (some ⟨h299.next, 0, none⟩) 1 1) (Cl.sdK (by decide) c300 rfl) ev6_one (by omega)
  obtain ⟨av301, cv301, rfl⟩ := g301.sd.form
  have q301 : ∀ b, vb (.slice av301 (i + 1) cv301) = some b → h.next ≤ b := fun b hb => (n301 b hb).elim (hpb b) (fun e => by omega)
  refine L_bi (.slice av301 (i + 1) cv301) h301 rfl rfl kr (vs := [.slice pa i pc, .slice (some ⟨h299.next, 0, none⟩) 1 1]) kr (bi_append e301) ?_
  have T301 : Sm Nix h h301 := T300.trans s301 (fun b hb => .inr (hpb b hb))
  have N301 := T301.nx
  refine L_nil ⟨rfl, ?_⟩
  refine D_l (l := [34]) kr kr Rk_nil (NS_b 1 kr (NS_nil (W_rg 1 kr (L_i ((i : Int)) (1) (nv ((i + 1 : Nat) : Int)) rfl rfl kr kr rfl (inc_ok (by omega)) (L_g 1 kr (L_nil ?_))))))
  exact ⟨l.length - (i + 1), by omega, i + 1, av301, cv301, by omega, by rw [take_one hx, List.flatMap_append]; simpa using g301, q301, rfl, kr, kr, kr, T301⟩
 ·
  have hge : i = l.length := by simp at hb; omega
  subst hge
  refine W_exit ?_
  repeat with_reducible refine then_exit ?_
  refine exit_here (W_sg 2 kr (L_nil (W_ret ?_)))
  repeat first | with_reducible refine then_ret ?_ | with_reducible refine blk_ret ?_
  refine done_of (v := .slice pa l.length pc) (.inl rfl) kr ?_
  rw [List.take_length] at Gp
  exact ⟨Gp, T299, hpb⟩
theorem same_ok {h : AH} {v w : Value} {l : List Int} (G : Sd h 1 v l.length (l.map nv)) (G' : Sd h 1 w l.length (l.map nv)) (hN : l.length < 1000000) : Arm.Calls Tryz.prog 10 [v, w] h (fun r => r.1 = .bool true ∧ Sm Nix h r.2) := by
 refine Calls_W 26 Tryz.f10 ?_
 have T0 : Sm Nix h h := .refl
 refine W_sg 1 kr (L_nil (W_seq (W_sg 1 kr (L_ln _ rfl rfl kr ((G.ext T0).len (T := 45) (el := 3) kr) (L_g 1 kr (L_ln _ rfl rfl kr ((G'.ext T0).len (T := 45) (el := 3) kr) (L_i ((l.length : Int)) ((l.length : Int)) (.bool false) rfl rfl kr kr rfl (by simp) ?_)))))))
 refine L_nil ?_
 refine W_cond false kr (fun e => by cases e) (fun _ => ?_)
 refine W_skip (W_seq (W_sg 1 kr (L_nil (W_block ?_))))
 refine W_loop (fun mm fr hh => ∃ (i : Nat), (i ≤ l.length) ∧ mm = l.length - i ∧ fr 0 = v ∧ fr 1 = w ∧ fr 5 = nv (i : Int) ∧ Sm Nix h hh) (l.length) ?_ ?_
 ·
  exact ⟨0, Nat.zero_le _, rfl, kr, kr, kr, T0⟩
 rintro mm302 fr302 h302 ⟨i, hi, hm302, y302_0, y302_1, y302_5, T302⟩
 have N302 := T302.nx
 refine W_set (k := 0) y302_0 (W_set (k := 1) y302_1 (W_set (k := 5) y302_5 (W_seq (W_sg 2 kr (L_ln _ rfl rfl kr ((G.ext T302).len (T := 45) (el := 3) kr) (L_g 1 kr (L_nil ?_)))))))
 refine W_cond (decide ((i : Int) < (l.length : Nat))) kr (fun hb => ?_) (fun hb => ?_)
 ·
  have hlt : i < l.length := by simp at hb; omega
  obtain ⟨z, hz⟩ : ∃ z, (l.map nv)[i]? = some (nv z) := ⟨l[i], by rw [List.getElem?_map, List.getElem?_eq_getElem hlt]; rfl⟩
  refine W_skip (W_seq (W_block (W_seq (W_drawn kr (D_l (l := [0,1,2,3,4,5,6,7,8]) kr kr Rk_nil (NS_b 2 kr ?_))))))
  obtain ⟨b4, o4, _, i4, l4⟩ := (G.ext T302).at (P := Tryz.prog) (T := 45) (el := 3) (k := 1) kr kr hlt .i64
  have m4 := l4 0 (by decide)
  rw [Nat.add_zero, Nat.mul_one, Nat.add_zero, hz] at m4
  refine NS_ix _ rfl rfl kr kr kr kr (i4) (NS_ld _ rfl rfl kr kr kr (ld_cell kr m4) (NS_b 2 kr ?_))
  obtain ⟨b5, o5, _, i5, l5⟩ := (G'.ext T302).at (P := Tryz.prog) (T := 45) (el := 3) (k := 1) kr kr hlt .i64
  have m5 := l5 0 (by decide)
  rw [Nat.add_zero, Nat.mul_one, Nat.add_zero, hz] at m5
  refine NS_ix _ rfl rfl kr kr kr kr (i5) (NS_ld _ rfl rfl kr kr kr (ld_cell kr m5) (NS_i (z) (z) (.bool false) rfl rfl kr kr kr kr rfl (by simp) (NS_nil ?_)))
  refine W_cond false kr (fun e => by cases e) (fun _ => ?_)
  refine W_skip (W_rg 1 kr (L_i ((i : Int)) (1) (nv ((i + 1 : Nat) : Int)) rfl rfl kr kr rfl (inc_ok (by omega)) (L_g 1 kr (L_nil ?_))))
  exact ⟨l.length - (i + 1), by omega, i + 1, by omega, rfl, kr, kr, kr, T302⟩
 ·
  refine W_exit ?_
  repeat with_reducible refine then_exit ?_
  refine exit_here (W_sg 1 kr (L_nil (W_ret ?_)))
  repeat first | with_reducible refine then_ret ?_ | with_reducible refine blk_ret ?_
  refine done_of (v := .bool true) (.inl rfl) kr ?_
  exact ⟨rfl, T302⟩
theorem steps_ok {h : AH} {v w : Value} {l : List (Nat × Nat)} (G : Sd h 2 v l.length (l.flatMap st2)) (G' : Sd h 2 w l.length (l.flatMap st2)) (hN : l.length < 1000000) : Arm.Calls Tryz.prog 11 [v, w] h (fun r => r.1 = .bool true ∧ Sm Nix h r.2) := by
 refine Calls_W 41 Tryz.f11 ?_
 have T0 : Sm Nix h h := .refl
 refine W_sg 1 kr (L_nil (W_seq (W_sg 1 kr (L_ln _ rfl rfl kr ((G.ext T0).len (T := 32) (el := 91) kr) (L_g 1 kr (L_ln _ rfl rfl kr ((G'.ext T0).len (T := 40) (el := 63) kr) (L_i ((l.length : Int)) ((l.length : Int)) (.bool false) rfl rfl kr kr rfl (by simp) ?_)))))))
 refine L_nil ?_
 refine W_cond false kr (fun e => by cases e) (fun _ => ?_)
 refine W_skip (W_seq (W_sg 1 kr (L_nil (W_block ?_))))
 refine W_loop (fun mm fr hh => ∃ (i : Nat), (i ≤ l.length) ∧ mm = l.length - i ∧ fr 0 = v ∧ fr 1 = w ∧ fr 5 = nv (i : Int) ∧ Sm Nix h hh) (l.length) ?_ ?_
 ·
  exact ⟨0, Nat.zero_le _, rfl, kr, kr, kr, T0⟩
 rintro mm303 fr303 h303 ⟨i, hi, hm303, y303_0, y303_1, y303_5, T303⟩
 have N303 := T303.nx
 refine W_set (k := 0) y303_0 (W_set (k := 1) y303_1 (W_set (k := 5) y303_5 (W_seq (W_sg 2 kr (L_ln _ rfl rfl kr ((G.ext T303).len (T := 32) (el := 91) kr) (L_g 1 kr (L_nil ?_)))))))
 refine W_cond (decide ((i : Int) < (l.length : Nat))) kr (fun hb => ?_) (fun hb => ?_)
 ·
  have hlt : i < l.length := by simp at hb; omega
  obtain ⟨z, hz⟩ : ∃ z, l[i]? = some z := ⟨_, List.getElem?_eq_getElem hlt⟩
  refine W_skip (W_seq (W_block (W_seq (W_drawn kr (D_l (l := [0,1,2,3,4,5,6,7,8,9,10,11,12,13,14,15,16,17,18,19,20,21,22,23]) kr kr Rk_nil (NS_b 2 kr ?_))))))
  obtain ⟨b4, o4, _, i4, l4⟩ := (G.ext T303).at (P := Tryz.prog) (T := 32) (el := 91) (k := 2) kr kr hlt .i64
  have m4 : ∀ j, j < 2 → _ = (st2 z)[j]? := fun j hj => (l4 j hj).trans (flat_at st2 st2_len hz hj)
  refine NS_ix _ rfl rfl kr kr kr kr (i4) (NS_b 1 kr (NS_ld _ rfl rfl kr kr kr (ld_cell kr (m4 0 (by decide))) (NS_b 2 kr ?_)))
  obtain ⟨b5, o5, _, i5, l5⟩ := (G'.ext T303).at (P := Tryz.prog) (T := 40) (el := 63) (k := 2) kr kr hlt .i64
  have m5 : ∀ j, j < 2 → _ = (st2 z)[j]? := fun j hj => (l5 j hj).trans (flat_at st2 st2_len hz hj)
  refine NS_ix _ rfl rfl kr kr kr kr (i5) (NS_b 1 kr (NS_ld _ rfl rfl kr kr kr (ld_cell kr (m5 0 (by decide))) (NS_i ((z.1 : Int)) ((z.1 : Int)) (.bool false) rfl rfl kr kr kr kr rfl (by simp) (NS_b 3 kr ?_))))
  obtain ⟨b4, o4, _, i4, l4⟩ := (G.ext T303).at (P := Tryz.prog) (T := 32) (el := 91) (k := 2) kr kr hlt .i64
  have m4 : ∀ j, j < 2 → _ = (st2 z)[j]? := fun j hj => (l4 j hj).trans (flat_at st2 st2_len hz hj)
  refine NS_ix _ rfl rfl kr kr kr kr (i4) (NS_b 1 kr (NS_ld _ rfl rfl kr kr kr (ld_cell kr (m4 1 (by decide))) (NS_b 2 kr ?_)))
  obtain ⟨b5, o5, _, i5, l5⟩ := (G'.ext T303).at (P := Tryz.prog) (T := 40) (el := 63) (k := 2) kr kr hlt .i64
  have m5 : ∀ j, j < 2 → _ = (st2 z)[j]? := fun j hj => (l5 j hj).trans (flat_at st2 st2_len hz hj)
  refine NS_ix _ rfl rfl kr kr kr kr (i5) (NS_b 1 kr (NS_ld _ rfl rfl kr kr kr (ld_cell kr (m5 1 (by decide))) (NS_i ((z.2 : Int)) ((z.2 : Int)) (.bool false) rfl rfl kr kr kr kr rfl (by simp) (NS_b 1 kr (NS_nil ?_)))))
  refine W_cond false kr (fun e => by cases e) (fun _ => ?_)
  refine W_skip (W_rg 1 kr (L_i ((i : Int)) (1) (nv ((i + 1 : Nat) : Int)) rfl rfl kr kr rfl (inc_ok (by omega)) (L_g 1 kr (L_nil ?_))))
  exact ⟨l.length - (i + 1), by omega, i + 1, by omega, rfl, kr, kr, kr, T303⟩
 ·
  refine W_exit ?_
  repeat with_reducible refine then_exit ?_
  refine exit_here (W_sg 1 kr (L_nil (W_ret ?_)))
  repeat first | with_reducible refine then_ret ?_ | with_reducible refine blk_ret ?_
  refine done_of (v := .bool true) (.inl rfl) kr ?_
  exact ⟨rfl, T303⟩
end
end Go.Proofs.YtjhbbdfbngbjcaaGreatDoor
