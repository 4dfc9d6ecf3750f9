/- Worlds of the program and walks of its functions. -/
import Derived.Test.YtmehemeoaplepaaZk
namespace Go.Proofs.Ytmehemeoaplepaa
noncomputable section
open Go Go.X Go.Arm Go.Mt
theorem kNum : KeyK Try.prog 3 nv := KeyK.int kr (fun e k => by kernel_rfl)
theorem pr_un {t : TypeId} {d : TypeDesc} {P : Program} (h : P.underlying t = some d) : pureRun P (underlying t) = some d := by
 simp only [underlying]; exact pureRun_and (e := Sem.program .pure) (a := P) rfl (by simp only [h]; rfl)
theorem eqIn_int {P : Program} (d : Nat) (t : TypeId) (k k' : IntKind) (a b : Int) (h : P.underlying t = some (.int k')) : pureRun P (Go.Op.equalIn (d + 1) t (.int k a) (.int k b)) = some (a == b) := by
 rw [Go.Op.equalIn]
 refine pureRun_and (pr_un h) ?_
 simp only [if_true]; rfl
noncomputable def fld (T i : Nat) : Field := match Try.prog.underlying T with | some (.struct fs) => (fs.toList[i]?).getD default | _ => default
theorem eq_way (a c : Int × Int) : pureRun Try.prog (Op.equal 96 (k2 a) (k2 c)) = some (decide (a = c)) := by
 have hu : ∃ f1 f2 : Field, Try.prog.underlying 96 = some (.struct ⟨[f1, f2]⟩) ∧ f1.name ≠ "_" ∧ f2.name ≠ "_" ∧ f1.type = 3 ∧ f2.type = 3 ∧ f1.offset = 0 ∧ f2.offset = 1 :=
   ⟨fld 96 0, fld 96 1, kr, by decide +kernel, by decide +kernel, kr, kr, kr, kr⟩
 obtain ⟨f1, f2, hu, n1, n2, t1, t2, o1, o2⟩ := hu
 have hi : Try.prog.underlying 3 = some (.int .i64) := by kernel_rfl
 unfold Go.Op.equal
 show pureRun _ (Go.Op.equalIn (9999 + 1) _ _ _) = _
 unfold k2 nv
 rw [Go.Op.equalIn]
 refine pureRun_and (pr_un hu) ?_
 dsimp only
 refine pureRun_and (e := program) (a := Try.prog) rfl ?_
 rw [if_neg (by decide +kernel)]
 rw [← Array.forIn_toList]
 simp only [List.forIn_cons, List.forIn_nil, n1, n2, t1, t2, o1, o2, if_true, ne_eq, not_false_eq_true]
 have p0 : ∀ v w : Value, pureRun Try.prog (part 3 ⟨[v, w]⟩ 0) = some v := fun v w => by kernel_rfl
 have p1 : ∀ v w : Value, pureRun Try.prog (part 3 ⟨[v, w]⟩ 1) = some w := fun v w => by kernel_rfl
 have q1 := eqIn_int (P := Try.prog) 9998 3 .i64 .i64 a.1 c.1 hi
 have q2 := eqIn_int (P := Try.prog) 9998 3 .i64 .i64 a.2 c.2 hi
 by_cases h1 : a.1 = c.1
 · have b1 : (a.1 == c.1) = true := by simpa using h1
   rw [b1] at q1
   by_cases h2 : a.2 = c.2
   · have b2 : (a.2 == c.2) = true := by simpa using h2
     rw [b2] at q2
     have hd : decide (a = c) = true := by simp [Prod.ext_iff, h1, h2]
     rw [hd]
     exact pureRun_and (a := (none, ())) (pureRun_and (a := ForInStep.yield (none, ())) (pureRun_and (p0 _ _) (pureRun_and (p0 _ _) (pureRun_and q1 rfl))) (pureRun_and (a := ForInStep.yield (none, ())) (pureRun_and (p1 _ _) (pureRun_and (p1 _ _) (pureRun_and q2 rfl))) rfl)) rfl
   · have b2 : (a.2 == c.2) = false := by simpa using h2
     rw [b2] at q2
     have hd : decide (a = c) = false := by simp [Prod.ext_iff, h2]
     rw [hd]
     exact pureRun_and (a := (some false, ())) (pureRun_and (a := ForInStep.yield (none, ())) (pureRun_and (p0 _ _) (pureRun_and (p0 _ _) (pureRun_and q1 rfl))) (pureRun_and (a := ForInStep.done (some false, ())) (pureRun_and (p1 _ _) (pureRun_and (p1 _ _) (pureRun_and q2 rfl))) rfl)) rfl
 · have b1 : (a.1 == c.1) = false := by simpa using h1
   rw [b1] at q1
   have hd : decide (a = c) = false := by simp [Prod.ext_iff, h1]
   rw [hd]
   exact pureRun_and (a := (some false, ())) (pureRun_and (a := ForInStep.done (some false, ())) (pureRun_and (p0 _ _) (pureRun_and (p0 _ _) (pureRun_and q1 rfl))) rfl) rfl
theorem k_way : KeyK Try.prog 96 k2 := by
 refine KeyK.ask (fs := ⟨[fld 96 0, fld 96 1]⟩) kr (fun k => rfl) (fun e k => by kernel_rfl) eq_way (fun k => ?_)
 unfold stays
 unfold k2 nv
 rw [Instr.sameBits]
 simp [Instr.sameBits]
theorem eq_ori (a c : Int × Int) : pureRun Try.prog (Op.equal 153 (k2 a) (k2 c)) = some (decide (a = c)) := by
 have hu : ∃ f1 f2 : Field, Try.prog.underlying 153 = some (.struct ⟨[f1, f2]⟩) ∧ f1.name ≠ "_" ∧ f2.name ≠ "_" ∧ f1.type = 3 ∧ f2.type = 3 ∧ f1.offset = 0 ∧ f2.offset = 1 :=
   ⟨fld 153 0, fld 153 1, kr, by decide +kernel, by decide +kernel, kr, kr, kr, kr⟩
 obtain ⟨f1, f2, hu, n1, n2, t1, t2, o1, o2⟩ := hu
 have hi : Try.prog.underlying 3 = some (.int .i64) := by kernel_rfl
 unfold Go.Op.equal
 show pureRun _ (Go.Op.equalIn (9999 + 1) _ _ _) = _
 unfold k2 nv
 rw [Go.Op.equalIn]
 refine pureRun_and (pr_un hu) ?_
 dsimp only
 refine pureRun_and (e := program) (a := Try.prog) rfl ?_
 rw [if_neg (by decide +kernel)]
 rw [← Array.forIn_toList]
 simp only [List.forIn_cons, List.forIn_nil, n1, n2, t1, t2, o1, o2, if_true, ne_eq, not_false_eq_true]
 have p0 : ∀ v w : Value, pureRun Try.prog (part 3 ⟨[v, w]⟩ 0) = some v := fun v w => by kernel_rfl
 have p1 : ∀ v w : Value, pureRun Try.prog (part 3 ⟨[v, w]⟩ 1) = some w := fun v w => by kernel_rfl
 have q1 := eqIn_int (P := Try.prog) 9998 3 .i64 .i64 a.1 c.1 hi
 have q2 := eqIn_int (P := Try.prog) 9998 3 .i64 .i64 a.2 c.2 hi
 by_cases h1 : a.1 = c.1
 · have b1 : (a.1 == c.1) = true := by simpa using h1
   rw [b1] at q1
   by_cases h2 : a.2 = c.2
   · have b2 : (a.2 == c.2) = true := by simpa using h2
     rw [b2] at q2
     have hd : decide (a = c) = true := by simp [Prod.ext_iff, h1, h2]
     rw [hd]
     exact pureRun_and (a := (none, ())) (pureRun_and (a := ForInStep.yield (none, ())) (pureRun_and (p0 _ _) (pureRun_and (p0 _ _) (pureRun_and q1 rfl))) (pureRun_and (a := ForInStep.yield (none, ())) (pureRun_and (p1 _ _) (pureRun_and (p1 _ _) (pureRun_and q2 rfl))) rfl)) rfl
   · have b2 : (a.2 == c.2) = false := by simpa using h2
     rw [b2] at q2
     have hd : decide (a = c) = false := by simp [Prod.ext_iff, h2]
     rw [hd]
     exact pureRun_and (a := (some false, ())) (pureRun_and (a := ForInStep.yield (none, ())) (pureRun_and (p0 _ _) (pureRun_and (p0 _ _) (pureRun_and q1 rfl))) (pureRun_and (a := ForInStep.done (some false, ())) (pureRun_and (p1 _ _) (pureRun_and (p1 _ _) (pureRun_and q2 rfl))) rfl)) rfl
 · have b1 : (a.1 == c.1) = false := by simpa using h1
   rw [b1] at q1
   have hd : decide (a = c) = false := by simp [Prod.ext_iff, h1]
   rw [hd]
   exact pureRun_and (a := (some false, ())) (pureRun_and (a := ForInStep.done (some false, ())) (pureRun_and (p0 _ _) (pureRun_and (p0 _ _) (pureRun_and q1 rfl))) rfl) rfl
theorem k_ori : KeyK Try.prog 153 k2 := by
 refine KeyK.ask (fs := ⟨[fld 153 0, fld 153 1]⟩) kr (fun k => rfl) (fun e k => by kernel_rfl) eq_ori (fun k => ?_)
 unfold stays
 unfold k2 nv
 rw [Instr.sameBits]
 simp [Instr.sameBits]
end
end Go.Proofs.Ytmehemeoaplepaa
namespace Go.Proofs.Ytmehemeoaplepaa
noncomputable section
open Go Go.X Go.Arm Go.Mt
theorem put_ok {W : Wd} {G : Gh} {h : AH} {a b : Int} {x : Pk} {ty : TypeId} {u : Value} (R : Rep W G h) (hx : PkV h G.ro (.iface ty u) x) (hl : (W.way a b).length < big) :
  Arm.Calls Try.prog 52 [ptr (G.B .wd), nv a, nv b, .iface ty u] h (fun r => Nxt (W.setWay a b (W.way a b ++ [x])) G h r.2) := by
 have hl : (W.way a b).length < 1000000000 := hl
 have hwl := R.waysLt
 refine Calls_W 23 Try.f52 ?_
 have T0 : Sm Nix h h := .refl
 refine W_sg 3 kr (L_nwc [nv 0, nv 0] .ptr rfl rfl kr fun h18 c18 t18 n18 => ?_)
 have T18 := T0.ext t18
 have N18 := T18.nx
 obtain ⟨h19, e19, d19, t19, n19⟩ := c18.sA 96 [nv a, nv b]
 replace c18 := d19
 have T19 := T18.tr t19
 have N19 := T19.nx
 refine L_st _ rfl rfl rfl kr kr (e19) (L_nil (W_drawn kr (D_e (e := 7) (l := [0,1,2,3,4,5,6]) (s' := []) kr kr rfl kr Rk_nil (NS_b 3 kr (NS_ld _ rfl rfl kr kr kr ((R.ext T19).wdL.ld (o := 2) kr rfl) (NS_ld _ rfl rfl kr kr kr (Cl.allN (n := 2) c18 rfl kr) (NS_b 1 kr (NS_nwc [.iface ty u] (.sl 1 1) rfl kr rfl rfl kr (Rk_1 rfl rfl (Rk_1 rfl rfl (Rk_1 rfl rfl (Rk_ld _ rfl rfl rfl kr ((R.ext (T19.ext (.push h19 _))).wdL.ld (o := 2) kr rfl) kr (Rk_ld _ rfl rfl rfl kr (Cl.allN (n := 2) (c18.ext (.push h19 _)) rfl kr) kr (Rk_1 rfl rfl (Rk_1 rfl rfl Rk_nil))))))) fun h20 c20 t20 n20 => ?_))))))))
 replace c18 := c18.ext t20
 have T20 := T19.ext t20
 have N20 := T20.nx
 refine NS_nil ?_
 have Rb := R.ext T20
 obtain ⟨m, hm, hmb, hmC, hmN, hmS⟩ := Rb.waysN
 obtain ⟨v21, st21, h21, e21, hv21, t21, n21, mp21, mb21, up21⟩ := hm.entry (P := Try.prog) (T := 73) (kt := 96) (el := 97) (z := (.slice none 0 0)) kr k_way kr hmb (a, b)
 have hv21 : v21 = G.S (.way a b) := hv21.trans (hmS a b)
 subst hv21
 obtain ⟨R21, X21⟩ := Rb.touch (kset_nodup hmN _ _) (fun i j => (hw_kset (G := G) hmS i j).trans (by rw [ups_id])) mp21 mb21 t21
 have Y21 := (Gx.of T20).trans X21
 refine L_me (.tuple ⟨[G.S (.way a b), .int .i64 st21]⟩) h21 rfl rfl kr kr e21 ?_
 replace c18 := c18.sn t21
 replace c20 := c20.sn t21
 have T21 : Sm (fun c => vb (G.S (.way a b)) = some c) h21 h21 := .refl
 refine L_nil ⟨rfl, ?_⟩
 refine D_e (e := 9) (l := [8,10]) (s' := [10]) kr kr rfl kr Rk_nil (NS_b 2 kr (NS_nil ?_))
 obtain ⟨cs22, g022, ls22⟩ := R21.way a b
 obtain ⟨v22, h22, e22, g22, t22, f22⟩ := g022.append (P := Try.prog) (sT := 97) (xT := 97) (el := 99) (by_ := 16) (z := .nilIface) (m := 1) (ds := [.iface ty u]) kr kr kr kr kr rfl (by decide) (c20.sd rfl) (fun x hx => by cases List.mem_singleton.1 hx; rfl) (by omega)
 refine L_bi v22 h22 rfl rfl kr (vs := [G.S (.way a b), .slice (some ⟨h19.next, 0, none⟩) 1 1]) kr (bi_append e22) ?_
 replace c18 := c18.lt
 replace c20 := c20.lt
 have T22 : Sm (fun c => vb (G.S (.way a b)) = some c) h21 h22 := T21.then t22
 have N22 := T22.nx
 refine L_nil ⟨rfl, ?_⟩
 refine D_e (e := 11) (l := []) (s' := []) kr kr rfl kr (Rk_noRead kr) (NS_nil ?_)
 have hnw : ¬ vb (G.S (.way a b)) = some (G.B .ways) := fun e => by
  have := R21.op.inj (.way a b) .ways _ (by obtain ⟨cs, e2, _⟩ := R21.rel.way a b; rw [e2]; simp) (by obtain ⟨m, e2, _⟩ := R21.rel.ways; rw [e2]; simp) (vb_vbx e) rfl
  cases this
 obtain ⟨h23, e23, mp23, mb23, t23, n23⟩ := up21 _ v22 (T22.get _ R21.waysLt hnw) (Nat.lt_of_lt_of_le R21.waysLt T22.nx)
 refine L_es h23 rfl rfl rfl kr kr kr e23 ?_
 have hN := R21.setWay a b (l := W.way a b ++ [x]) (v := v22) (kset_nodup hmN _ _) (hw_kset (G := G) hmS) (ls22.app (Ls.one ⟨_, hx.mono (Gx.dr Y21 R.op), rfl⟩ rfl)) (by rw [List.length_append]; exact g22) T22 (fun c hc => .inl hc) (fun c hc => f22 c hc) mp23 mb23 t23
 have hN := Nxt.after (G := G) hN Y21
 refine L_nil ⟨rfl, ?_⟩
 refine D_l (l := []) kr kr Rk_nil (NS_nil ?_)
 repeat with_reducible refine blk_norm ?_
 refine done_of (v := .tuple ⟨[]⟩) (.inr rfl) kr ?_
 exact hN
end
end Go.Proofs.Ytmehemeoaplepaa
namespace Go.Arm
noncomputable section
open Go Go.X
theorem Cl.storeAt {P : Program} {h : AH} {b o : Nat} {l vs : List Value} {v : Value} {T : TypeId} (hc : Cl h b l) (hz : szOf P T = some vs.length) (hv : cellsL v = vs) (ho : o + vs.length ≤ l.length) (h1 : ∀ x, x ∈ vs → x.oneCell' = true) :
  ∃ h', aStore P T ⟨b, o, none⟩ v h = some h' ∧ Cl h' b (l.take o ++ vs ++ l.drop (o + vs.length)) ∧ Sm (fun k => k = b) h h' ∧ h'.next = h.next := by
 obtain ⟨h2, e1, c1, s1, n1⟩ := Cl.setcs (o := o) (vs := vs) (i := 0) hc (by omega) h1
 refine ⟨h2, ?_, c1, s1, n1⟩
 unfold aStore
 simp only [hz, hv, if_true]
 exact e1
theorem Rk_i {P : Program} {n : Nat} {ops : Array Oper} {f : Fr} {h : AH} {i : Nat} {r : List Nat} {o : Oper} {op : BinOp} {T T' : TypeId} {x y : Operand} {g : Int → Int → Value} {d : Nat} (a b : Int) (v : Value) (ho : ops[i]? = some o) (hop : o.op = .binOp op T x y T') (hd : o.dst = some d) (hx : ev n f x = some (.int .i64 a)) (hy : ev n f y = some (.int .i64 b)) (hg : kInt op = some g) (hv : g a b = v) (hf : f d = v) (k : Rk P n ops f h r) : Rk P n ops f h (i :: r) :=
 Rk_v (v := v) ho hd (by rw [hop, ev_int hx hy hg, hv]) hf k
theorem ld_sm {P : Program} {h h' : AH} {S : Nat → Prop} {T : TypeId} {b o : Nat} {v : Value} (hs : scalT P T = true) (hl : aLoad P T ⟨b, o, none⟩ h = some v) (s : Sm S h h') (lt : b < h.next) (hn : ¬ S b) : aLoad P T ⟨b, o, none⟩ h' = some v := by
 unfold scalT at hs
 cases hu : P.underlying T with
 | none => rw [hu] at hs; cases hs
 | some d =>
  rw [hu] at hs
  have hs : isAg d = false := by simpa using hs
  unfold aLoad at hl ⊢
  simp only [hu, hs] at hl ⊢
  exact (cell_sm s lt hn).trans hl
theorem erase_map {α : Type} (f : α → Value) {l : List α} {i : Nat} : (l.map f).take (i * 1) ++ (l.map f).drop (i * 1 + 1) = (l.eraseIdx i).map f := by
 rw [Nat.mul_one, List.eraseIdx_eq_take_drop_succ, List.map_append, List.map_take, List.map_drop]
theorem Gr.open {h : AH} {k n : Nat} {v : Value} {cs : List Value} (g : Gr h k v n cs) (hn : 0 < n) : ∃ b o cc nn, v = .slice (some ⟨b, o, none⟩) n open_ ∧ b < h.next ∧ h.m.get b = some (.cells cc nn k false) ∧ o + n * k ≤ nn ∧ ∀ j, j < cs.length → cc.get (o + j) = cs[j]? := by
 rcases g.2 with ⟨h0, _⟩ | ⟨b, o, cc, nn, e, h2, h3, h4, h5, h6⟩
 · omega
 · exact ⟨b, o, cc, nn, e, h2, h3, h5, h6⟩
end
end Go.Arm
namespace Go.Proofs.Ytmehemeoaplepaa
noncomputable section
open Go Go.X Go.Arm Go.Mt
theorem bv_one (d : By) : ∀ x, x ∈ d.map bv → x.oneCell' = true := by
 intro x hx
 obtain ⟨y, _, rfl⟩ := List.mem_map.1 hx
 rfl
theorem gets_ok {W : Wd} {G : Gh} {h : AH} {p no : Nat} {dv : Value} {d : By} (R : Rep W G h) (hp : p < W.n) (hr : G.C (.rq p no) ≠ .no) (H : Dr h G.ro dv d) (hl : d.length < big) (h0 : 0 ≤ (W.rq p no).room) :
   Arm.Calls Try.prog 64 [ptr (G.B (.rq p no)), dv] h (fun r => Nxt (W.setRq p no ((W.rq p no).gets d)) G h r.2) := by
 obtain ⟨dv0, hd0, c0⟩ := R.rqL hp hr
 replace c0 : Cl h (G.B (.rq p no)) [nk (W.rq p no).no, nv (W.rq p no).peer, nv (W.rq p no).ctx, nv (W.rq p no).tag, nv (W.rq p no).room, .bool (W.rq p no).send, .bool (W.rq p no).sync, .bool (W.rq p no).pers, .bool (W.rq p no).act, .bool (W.rq p no).done, nk (W.rq p no).parts, nk (W.rq p no).size, dv0, G.S (.pcs p no), nk (W.rq p no).gone, G.S (.snt p no), .bool (W.rq p no).clr, nv (W.rq p no).st.src, nv (W.rq p no).st.tag, nv (W.rq p no).st.size, nv (W.rq p no).st.err] := c0
 by_cases hparts : (W.rq p no).parts = 0
 · by_cases hroom : (W.rq p no).room < d.length
   · have hg : (W.rq p no).gets d = { W.rq p no with data := d.take (W.rq p no).room.toNat, done := true, st := { (W.rq p no).st with err := 15 } } := if_pos ⟨hparts, hroom⟩
     rw [hg]
     refine Calls_W 42 Try.f64 ?_
     have T0 : Sm (fun c => c = G.B (.rq p no)) h h := .refl
     refine W_sg 3 kr (L_c rfl rfl kr (clone_by H.1 (bv_one d) (by rw [List.length_map]; exact hl)) ?_)
     rintro v24 h24 ⟨r24, k24, t24, f24, s24⟩
     dsimp only at r24 k24 t24 f24 s24
     obtain ⟨R24, X24⟩ := R.more (Q := fun b => vb v24 = some b) t24 (fun b hb => (f24 b hb).1) (fun b hb => (f24 b hb).2)
     obtain ⟨va24, vc24, ev24⟩ := r24.form
     subst ev24
     have hlt24 : ∀ b, vb (Value.slice va24 (d.map bv).length vc24) = some b → ¬ b = G.B (.rq p no) := fun b hb e => by have := (f24 b hb).1; have := c0.lt; omega
     obtain ⟨vq, eq, rq, kq, bq⟩ := r24.cut k24 (P := Try.prog) (T := 23) (el := 5) (m := (W.rq p no).room.toNat) kr kr (by rw [List.length_map]; omega) .i64
     have hroom2 : ((((W.rq p no).room.toNat : Nat) : Int)) = (W.rq p no).room := by omega
     rw [hroom2] at eq
     obtain ⟨wa, wc, ew⟩ := rq.form
     subst ew
     replace c0 := c0.ext t24
     have T24 : Sm (fun c => c = G.B (.rq p no)) h24 h24 := .refl
     refine L_g 2 kr ?_
     obtain ⟨h25, e25, d25, t25, n25⟩ := c0.s1 23 12 (.slice va24 (d.map bv).length vc24)
     replace d25 : Cl h25 (G.B (.rq p no)) [nk (W.rq p no).no, nv (W.rq p no).peer, nv (W.rq p no).ctx, nv (W.rq p no).tag, nv (W.rq p no).room, .bool (W.rq p no).send, .bool (W.rq p no).sync, .bool (W.rq p no).pers, .bool (W.rq p no).act, .bool (W.rq p no).done, nk (W.rq p no).parts, nk (W.rq p no).size, .slice va24 (d.map bv).length vc24, G.S (.pcs p no), nk (W.rq p no).gone, G.S (.snt p no), .bool (W.rq p no).clr, nv (W.rq p no).st.src, nv (W.rq p no).st.tag, nv (W.rq p no).st.size, nv (W.rq p no).st.err] := d25
     replace c0 := d25
     have T25 : Sm (fun c => c = G.B (.rq p no)) h24 h25 := T24.trans t25 (fun x hx => by have hx : x = G.B (.rq p no) := hx; first | exact .inr (by omega) | exact .inl (by subst hx; first | rfl | exact .inl rfl | exact .inr rfl | exact .inr (.inl rfl) | exact .inr (.inr rfl) | (show _ < _; omega)))
     have N25 := T25.nx
     refine L_st _ rfl rfl rfl kr kr (e25) (L_g 2 kr ?_)
     obtain ⟨h26, e26, d26, t26, n26⟩ := c0.s1 4 9 (.bool true)
     replace d26 : Cl h26 (G.B (.rq p no)) [nk (W.rq p no).no, nv (W.rq p no).peer, nv (W.rq p no).ctx, nv (W.rq p no).tag, nv (W.rq p no).room, .bool (W.rq p no).send, .bool (W.rq p no).sync, .bool (W.rq p no).pers, .bool (W.rq p no).act, .bool true, nk (W.rq p no).parts, nk (W.rq p no).size, .slice va24 (d.map bv).length vc24, G.S (.pcs p no), nk (W.rq p no).gone, G.S (.snt p no), .bool (W.rq p no).clr, nv (W.rq p no).st.src, nv (W.rq p no).st.tag, nv (W.rq p no).st.size, nv (W.rq p no).st.err] := d26
     replace c0 := d26
     have T26 : Sm (fun c => c = G.B (.rq p no)) h24 h26 := T25.trans t26 (fun x hx => by have hx : x = G.B (.rq p no) := hx; first | exact .inr (by omega) | exact .inl (by subst hx; first | rfl | exact .inl rfl | exact .inr rfl | exact .inr (.inl rfl) | exact .inr (.inr rfl) | (show _ < _; omega)))
     have N26 := T26.nx
     refine L_st _ rfl rfl rfl kr kr (e26) (L_nil (W_sg 3 kr (L_ld _ rfl rfl kr (c0.ld (o := 10) kr rfl) (L_i (((W.rq p no).parts : Int)) (0) (.bool true) rfl rfl kr kr rfl (by rw [hparts]; rfl) (L_g 2 kr (L_want kr (L_ln _ rfl rfl kr (H.1.lenA (T := 23) (el := 5) kr _) (L_g 3 kr (L_want kr ?_)))))))))
     refine L_ld _ rfl rfl kr (c0.ld (o := 4) kr rfl) (L_want kr (L_i (((d.map bv).length : Int)) ((W.rq p no).room) (.bool true) rfl rfl kr kr rfl (by simp; omega) (L_g 1 kr (L_nil ?_))))
     refine W_cond true kr (fun _ => ?_) (fun e => by cases e)
     refine W_drawn kr (D_e (e := 13) (l := [0,1,2,3,4,5,6,7,8,9,10,11,12]) (s' := [1]) kr kr rfl kr Rk_nil (NS_b 5 kr (NS_ld _ rfl rfl kr kr kr (c0.ld (o := 12) kr rfl) (NS_b 3 kr (NS_ld _ rfl rfl kr kr kr (c0.ld (o := 4) kr rfl) ?_)))))
     have hget := eq h26 (fun b hb => T26.get b ((f24 b hb).2) (hlt24 b hb))
     refine NS_sl _ rfl rfl kr kr kr kr kr kr (hget) (NS_b 2 kr (NS_nil ?_))
     obtain ⟨h27, e27, d27, t27, n27⟩ := c0.s1 23 12 (.slice wa ((d.map bv).take (W.rq p no).room.toNat).length wc)
     replace d27 : Cl h27 (G.B (.rq p no)) [nk (W.rq p no).no, nv (W.rq p no).peer, nv (W.rq p no).ctx, nv (W.rq p no).tag, nv (W.rq p no).room, .bool (W.rq p no).send, .bool (W.rq p no).sync, .bool (W.rq p no).pers, .bool (W.rq p no).act, .bool true, nk (W.rq p no).parts, nk (W.rq p no).size, .slice wa ((d.map bv).take (W.rq p no).room.toNat).length wc, G.S (.pcs p no), nk (W.rq p no).gone, G.S (.snt p no), .bool (W.rq p no).clr, nv (W.rq p no).st.src, nv (W.rq p no).st.tag, nv (W.rq p no).st.size, nv (W.rq p no).st.err] := d27
     replace c0 := d27
     have T27 : Sm (fun c => c = G.B (.rq p no)) h24 h27 := T26.trans t27 (fun x hx => by have hx : x = G.B (.rq p no) := hx; first | exact .inr (by omega) | exact .inl (by subst hx; first | rfl | exact .inl rfl | exact .inr rfl | exact .inr (.inl rfl) | exact .inr (.inr rfl) | (show _ < _; omega)))
     have N27 := T27.nx
     refine L_st _ rfl rfl rfl kr kr (e27) ?_
     refine L_nil ⟨rfl, ?_⟩
     refine D_e (e := 17) (l := [14,15,16]) (s' := []) kr kr rfl kr (Rk_noRead kr) (NS_b 3 kr (NS_nil ?_))
     obtain ⟨h28, e28, d28, t28, n28⟩ := c0.s1 26 20 (nv 15)
     replace d28 : Cl h28 (G.B (.rq p no)) [nk (W.rq p no).no, nv (W.rq p no).peer, nv (W.rq p no).ctx, nv (W.rq p no).tag, nv (W.rq p no).room, .bool (W.rq p no).send, .bool (W.rq p no).sync, .bool (W.rq p no).pers, .bool (W.rq p no).act, .bool true, nk (W.rq p no).parts, nk (W.rq p no).size, .slice wa ((d.map bv).take (W.rq p no).room.toNat).length wc, G.S (.pcs p no), nk (W.rq p no).gone, G.S (.snt p no), .bool (W.rq p no).clr, nv (W.rq p no).st.src, nv (W.rq p no).st.tag, nv (W.rq p no).st.size, nv 15] := d28
     replace c0 := d28
     have T28 : Sm (fun c => c = G.B (.rq p no)) h24 h28 := T27.trans t28 (fun x hx => by have hx : x = G.B (.rq p no) := hx; first | exact .inr (by omega) | exact .inl (by subst hx; first | rfl | exact .inl rfl | exact .inr rfl | exact .inr (.inl rfl) | exact .inr (.inr rfl) | (show _ < _; omega)))
     have N28 := T28.nx
     refine L_st _ rfl rfl rfl kr kr (e28) ?_
     refine L_nil ⟨rfl, ?_⟩
     refine D_l (l := []) kr kr Rk_nil (NS_nil ?_)
     repeat with_reducible refine blk_norm ?_
     refine done_of (v := .tuple ⟨[]⟩) (.inr rfl) kr ?_
     have hN := R24.setRq hp hr (r := { (W.rq p no) with data := d.take (W.rq p no).room.toNat, done := true, st := { (W.rq p no).st with err := 15 } }) (dv := (.slice wa ((d.map bv).take (W.rq p no).room.toNat).length wc)) (c0) T28 (fun k hk => .inl hk) (⟨by have := rq.sm T28 (fun b hb => hlt24 b (bq ▸ hb)); show Rb _ _ (List.map bv (d.take _)); rw [List.map_take]; exact this, fun b hb => .inr (bq ▸ hb)⟩) rfl rfl
     exact ⟨_, _, _, hN.1, X24.trans hN.2⟩
   · have hg : (W.rq p no).gets d = { W.rq p no with data := d, done := true } := if_neg (fun e => hroom e.2)
     rw [hg]
     refine Calls_W 42 Try.f64 ?_
     have T0 : Sm (fun c => c = G.B (.rq p no)) h h := .refl
     refine W_sg 3 kr (L_c rfl rfl kr (clone_by H.1 (bv_one d) (by rw [List.length_map]; exact hl)) ?_)
     rintro v29 h29 ⟨r29, k29, t29, f29, s29⟩
     dsimp only at r29 k29 t29 f29 s29
     obtain ⟨R29, X29⟩ := R.more (Q := fun b => vb v29 = some b) t29 (fun b hb => (f29 b hb).1) (fun b hb => (f29 b hb).2)
     obtain ⟨va29, vc29, ev29⟩ := r29.form
     subst ev29
     have hlt29 : ∀ b, vb (Value.slice va29 (d.map bv).length vc29) = some b → ¬ b = G.B (.rq p no) := fun b hb e => by have := (f29 b hb).1; have := c0.lt; omega
     replace c0 := c0.ext t29
     have T29 : Sm (fun c => c = G.B (.rq p no)) h29 h29 := .refl
     refine L_g 2 kr ?_
     obtain ⟨h30, e30, d30, t30, n30⟩ := c0.s1 23 12 (.slice va29 (d.map bv).length vc29)
     replace d30 : Cl h30 (G.B (.rq p no)) [nk (W.rq p no).no, nv (W.rq p no).peer, nv (W.rq p no).ctx, nv (W.rq p no).tag, nv (W.rq p no).room, .bool (W.rq p no).send, .bool (W.rq p no).sync, .bool (W.rq p no).pers, .bool (W.rq p no).act, .bool (W.rq p no).done, nk (W.rq p no).parts, nk (W.rq p no).size, .slice va29 (d.map bv).length vc29, G.S (.pcs p no), nk (W.rq p no).gone, G.S (.snt p no), .bool (W.rq p no).clr, nv (W.rq p no).st.src, nv (W.rq p no).st.tag, nv (W.rq p no).st.size, nv (W.rq p no).st.err] := d30
     replace c0 := d30
     have T30 : Sm (fun c => c = G.B (.rq p no)) h29 h30 := T29.trans t30 (fun x hx => by have hx : x = G.B (.rq p no) := hx; first | exact .inr (by omega) | exact .inl (by subst hx; first | rfl | exact .inl rfl | exact .inr rfl | exact .inr (.inl rfl) | exact .inr (.inr rfl) | (show _ < _; omega)))
     have N30 := T30.nx
     refine L_st _ rfl rfl rfl kr kr (e30) (L_g 2 kr ?_)
     obtain ⟨h31, e31, d31, t31, n31⟩ := c0.s1 4 9 (.bool true)
     replace d31 : Cl h31 (G.B (.rq p no)) [nk (W.rq p no).no, nv (W.rq p no).peer, nv (W.rq p no).ctx, nv (W.rq p no).tag, nv (W.rq p no).room, .bool (W.rq p no).send, .bool (W.rq p no).sync, .bool (W.rq p no).pers, .bool (W.rq p no).act, .bool true, nk (W.rq p no).parts, nk (W.rq p no).size, .slice va29 (d.map bv).length vc29, G.S (.pcs p no), nk (W.rq p no).gone, G.S (.snt p no), .bool (W.rq p no).clr, nv (W.rq p no).st.src, nv (W.rq p no).st.tag, nv (W.rq p no).st.size, nv (W.rq p no).st.err] := d31
     replace c0 := d31
     have T31 : Sm (fun c => c = G.B (.rq p no)) h29 h31 := T30.trans t31 (fun x hx => by have hx : x = G.B (.rq p no) := hx; first | exact .inr (by omega) | exact .inl (by subst hx; first | rfl | exact .inl rfl | exact .inr rfl | exact .inr (.inl rfl) | exact .inr (.inr rfl) | (show _ < _; omega)))
     have N31 := T31.nx
     refine L_st _ rfl rfl rfl kr kr (e31) (L_nil (W_sg 3 kr (L_ld _ rfl rfl kr (c0.ld (o := 10) kr rfl) (L_i (((W.rq p no).parts : Int)) (0) (.bool true) rfl rfl kr kr rfl (by rw [hparts]; rfl) (L_g 2 kr (L_want kr (L_ln _ rfl rfl kr (H.1.lenA (T := 23) (el := 5) kr _) (L_g 3 kr (L_want kr ?_)))))))))
     refine L_ld _ rfl rfl kr (c0.ld (o := 4) kr rfl) (L_want kr (L_i (((d.map bv).length : Int)) ((W.rq p no).room) (.bool false) rfl rfl kr kr rfl (by simp; omega) (L_g 1 kr (L_nil ?_))))
     refine W_cond false kr (fun e => by cases e) (fun _ => ?_)
     refine W_skip ?_
     repeat with_reducible refine blk_norm ?_
     refine done_of (v := .tuple ⟨[]⟩) (.inr rfl) kr ?_
     have hN := R29.setRq hp hr (r := { (W.rq p no) with data := d, done := true }) (dv := (.slice va29 (d.map bv).length vc29)) (c0) T31 (fun k hk => .inl hk) (⟨r29.sm T31 hlt29, fun b hb => .inr hb⟩) rfl rfl
     exact ⟨_, _, _, hN.1, X29.trans hN.2⟩
 · have hg : (W.rq p no).gets d = { W.rq p no with data := d, done := true } := if_neg (fun e => hparts e.1)
   rw [hg]
   refine Calls_W 42 Try.f64 ?_
   have T0 : Sm (fun c => c = G.B (.rq p no)) h h := .refl
   refine W_sg 3 kr (L_c rfl rfl kr (clone_by H.1 (bv_one d) (by rw [List.length_map]; exact hl)) ?_)
   rintro v32 h32 ⟨r32, k32, t32, f32, s32⟩
   dsimp only at r32 k32 t32 f32 s32
   obtain ⟨R32, X32⟩ := R.more (Q := fun b => vb v32 = some b) t32 (fun b hb => (f32 b hb).1) (fun b hb => (f32 b hb).2)
   obtain ⟨va32, vc32, ev32⟩ := r32.form
   subst ev32
   have hlt32 : ∀ b, vb (Value.slice va32 (d.map bv).length vc32) = some b → ¬ b = G.B (.rq p no) := fun b hb e => by have := (f32 b hb).1; have := c0.lt; omega
   replace c0 := c0.ext t32
   have T32 : Sm (fun c => c = G.B (.rq p no)) h32 h32 := .refl
   refine L_g 2 kr ?_
   obtain ⟨h33, e33, d33, t33, n33⟩ := c0.s1 23 12 (.slice va32 (d.map bv).length vc32)
   replace d33 : Cl h33 (G.B (.rq p no)) [nk (W.rq p no).no, nv (W.rq p no).peer, nv (W.rq p no).ctx, nv (W.rq p no).tag, nv (W.rq p no).room, .bool (W.rq p no).send, .bool (W.rq p no).sync, .bool (W.rq p no).pers, .bool (W.rq p no).act, .bool (W.rq p no).done, nk (W.rq p no).parts, nk (W.rq p no).size, .slice va32 (d.map bv).length vc32, G.S (.pcs p no), nk (W.rq p no).gone, G.S (.snt p no), .bool (W.rq p no).clr, nv (W.rq p no).st.src, nv (W.rq p no).st.tag, nv (W.rq p no).st.size, nv (W.rq p no).st.err] := d33
   replace c0 := d33
   have T33 : Sm (fun c => c = G.B (.rq p no)) h32 h33 := T32.trans t33 (fun x hx => by have hx : x = G.B (.rq p no) := hx; first | exact .inr (by omega) | exact .inl (by subst hx; first | rfl | exact .inl rfl | exact .inr rfl | exact .inr (.inl rfl) | exact .inr (.inr rfl) | (show _ < _; omega)))
   have N33 := T33.nx
   refine L_st _ rfl rfl rfl kr kr (e33) (L_g 2 kr ?_)
   obtain ⟨h34, e34, d34, t34, n34⟩ := c0.s1 4 9 (.bool true)
   replace d34 : Cl h34 (G.B (.rq p no)) [nk (W.rq p no).no, nv (W.rq p no).peer, nv (W.rq p no).ctx, nv (W.rq p no).tag, nv (W.rq p no).room, .bool (W.rq p no).send, .bool (W.rq p no).sync, .bool (W.rq p no).pers, .bool (W.rq p no).act, .bool true, nk (W.rq p no).parts, nk (W.rq p no).size, .slice va32 (d.map bv).length vc32, G.S (.pcs p no), nk (W.rq p no).gone, G.S (.snt p no), .bool (W.rq p no).clr, nv (W.rq p no).st.src, nv (W.rq p no).st.tag, nv (W.rq p no).st.size, nv (W.rq p no).st.err] := d34
   replace c0 := d34
   have T34 : Sm (fun c => c = G.B (.rq p no)) h32 h34 := T33.trans t34 (fun x hx => by have hx : x = G.B (.rq p no) := hx; first | exact .inr (by omega) | exact .inl (by subst hx; first | rfl | exact .inl rfl | exact .inr rfl | exact .inr (.inl rfl) | exact .inr (.inr rfl) | (show _ < _; omega)))
   have N34 := T34.nx
   refine L_st _ rfl rfl rfl kr kr (e34) (L_nil (W_sg 3 kr (L_ld _ rfl rfl kr (c0.ld (o := 10) kr rfl) (L_i (((W.rq p no).parts : Int)) (0) (.bool false) rfl rfl kr kr rfl (by simp; omega) (L_g 9 kr (L_nil ?_))))))
   refine W_cond false kr (fun e => by cases e) (fun _ => ?_)
   refine W_skip ?_
   repeat with_reducible refine blk_norm ?_
   refine done_of (v := .tuple ⟨[]⟩) (.inr rfl) kr ?_
   have hN := R32.setRq hp hr (r := { (W.rq p no) with data := d, done := true }) (dv := (.slice va32 (d.map bv).length vc32)) (c0) T34 (fun k hk => .inl hk) (⟨r32.sm T34 hlt32, fun b hb => .inr hb⟩) rfl rfl
   exact ⟨_, _, _, hN.1, X32.trans hN.2⟩
end
end Go.Proofs.Ytmehemeoaplepaa
namespace Go.Proofs.Ytmehemeoaplepaa
noncomputable section
open Go Go.X Go.Arm Go.Mt
theorem wrap_nat {a b : Nat} (h : a * b < big) : IntKind.i64.wrap ((a : Int) * (b : Int)) = ((a * b : Nat) : Int) := by
 have h : a * b < 1000000000 := h
 rw [← Int.natCast_mul, IntKind.wrap_i64]; omega
theorem fits_ok {W : Wd} {G : Gh} {h : AH} {p no : Nat} {e : En} (R : Rep W G h) (hp : p < W.n) (hr : G.C (.rq p no) ≠ .no) (hps : (W.rq p no).small) :
  Arm.Calls Try.prog 46 [ptr (G.B (.rq p no)), .agg ⟨[nv e.src, nv e.ctx, nv e.tag, nv e.size, nv e.parts]⟩] h (fun r => r.1 = .bool ((W.rq p no).fits e) ∧ Sm Nix h r.2) := by
 obtain ⟨dv0, hd0, c0⟩ := R.rqL hp hr
 replace c0 : Cl h (G.B (.rq p no)) [nk (W.rq p no).no, nv (W.rq p no).peer, nv (W.rq p no).ctx, nv (W.rq p no).tag, nv (W.rq p no).room, .bool (W.rq p no).send, .bool (W.rq p no).sync, .bool (W.rq p no).pers, .bool (W.rq p no).act, .bool (W.rq p no).done, nk (W.rq p no).parts, nk (W.rq p no).size, dv0, G.S (.pcs p no), nk (W.rq p no).gone, G.S (.snt p no), .bool (W.rq p no).clr, nv (W.rq p no).st.src, nv (W.rq p no).st.tag, nv (W.rq p no).st.size, nv (W.rq p no).st.err] := c0
 refine Calls_W 73 Try.f46 ?_
 have T0 : Sm Nix h h := .refl
 refine W_seq (W_region (L_nwc [nv e.src, nv e.ctx, nv e.tag, nv e.size, nv e.parts] .ptr rfl rfl kr fun h35 c35 t35 n35 => ?_))
 replace c0 := c0.ext t35
 have T35 := T0.ext t35
 have N35 := T35.nx
 refine L_g 1 kr (L_nil ?_)
 refine W_seq_cut (fun fr hh => fr 0 = ptr (G.B (.rq p no)) ∧ fr 3 = ptr h.next ∧ Sm Nix h hh ∧ Cl hh h.next [nv e.src, nv e.ctx, nv e.tag, nv e.size, nv e.parts] ∧ Cl hh (G.B (.rq p no)) [nk (W.rq p no).no, nv (W.rq p no).peer, nv (W.rq p no).ctx, nv (W.rq p no).tag, nv (W.rq p no).room, .bool (W.rq p no).send, .bool (W.rq p no).sync, .bool (W.rq p no).pers, .bool (W.rq p no).act, .bool (W.rq p no).done, nk (W.rq p no).parts, nk (W.rq p no).size, dv0, G.S (.pcs p no), nk (W.rq p no).gone, G.S (.snt p no), .bool (W.rq p no).clr, nv (W.rq p no).st.src, nv (W.rq p no).st.tag, nv (W.rq p no).st.size, nv (W.rq p no).st.err] ∧ (W.rq p no).fits e = (e.parts == (W.rq p no).parts && ((W.rq p no).parts == 0 || e.size == (((W.rq p no).parts * (W.rq p no).size : Nat) : Int)))) ?_ ?_
 ·
  refine W_block (W_seq ?_)
  rcases (W.rq p no).fits_split e with hc | hc | hc | hc | hc | hc | hc | hc
  ·
   obtain ⟨hc1, hres⟩ := hc
   refine W_drawn kr (D_l (l := [0,1,2,3,4,5,6,7,8,9,10,11,12,13,14,15,16,17,18,19,20,21,22,23,24,25,26,27,28,29,30,31,32,33,34,35,36,37,38,39]) kr kr Rk_nil (NS_b 1 kr (NS_ld _ rfl rfl kr kr kr (c35.ld (o := 1) kr rfl) (NS_b 3 kr (NS_ld _ rfl rfl kr kr kr (c0.ld (o := 2) kr rfl) (NS_i (e.ctx) ((W.rq p no).ctx) (.bool true) rfl rfl kr kr kr kr rfl (by simp; omega) (NS_b 33 kr (NS_nil ?_))))))))
   refine W_cond true kr (fun _ => ?_) (fun e => by cases e)
   refine W_sg 1 kr (L_nil (W_ret ?_))
   repeat first | with_reducible refine then_ret ?_ | with_reducible refine blk_ret ?_
   refine done_of (v := .bool false) (.inl rfl) kr ?_
   exact ⟨by rw [hres], T35⟩
  ·
   obtain ⟨hc1, hc2, hc3, hres⟩ := hc
   refine W_drawn kr (D_l (l := [0,1,2,3,4,5,6,7,8,9,10,11,12,13,14,15,16,17,18,19,20,21,22,23,24,25,26,27,28,29,30,31,32,33,34,35,36,37,38,39]) kr kr Rk_nil (NS_b 1 kr (NS_ld _ rfl rfl kr kr kr (c35.ld (o := 1) kr rfl) (NS_b 3 kr (NS_ld _ rfl rfl kr kr kr (c0.ld (o := 2) kr rfl) (NS_i (e.ctx) ((W.rq p no).ctx) (.bool false) rfl rfl kr kr kr kr rfl (by simp; omega) (NS_b 4 kr (NS_ld _ rfl rfl kr kr kr (c0.ld (o := 1) kr rfl) (NS_i ((W.rq p no).peer) (-1) (.bool true) rfl rfl kr kr kr kr rfl (by simp; omega) (NS_b 4 kr (NS_ld _ rfl rfl kr kr kr (c0.ld (o := 1) kr rfl) ?_)))))))))))
   refine NS_b 1 kr (NS_ld _ rfl rfl kr kr kr (c35.ld (o := 0) kr rfl) (NS_i ((W.rq p no).peer) (e.src) (.bool true) rfl rfl kr kr kr kr rfl (by simp; omega) (NS_b 19 kr (NS_nil ?_))))
   refine W_cond true kr (fun _ => ?_) (fun e => by cases e)
   refine W_sg 1 kr (L_nil (W_ret ?_))
   repeat first | with_reducible refine then_ret ?_ | with_reducible refine blk_ret ?_
   refine done_of (v := .bool false) (.inl rfl) kr ?_
   exact ⟨by rw [hres], T35⟩
  ·
   obtain ⟨hc1, hc2, hc4, hc5, hres⟩ := hc
   refine W_drawn kr (D_l (l := [0,1,2,3,4,5,6,7,8,9,10,11,12,13,14,15,16,17,18,19,20,21,22,23,24,25,26,27,28,29,30,31,32,33,34,35,36,37,38,39]) kr kr Rk_nil (NS_b 1 kr (NS_ld _ rfl rfl kr kr kr (c35.ld (o := 1) kr rfl) (NS_b 3 kr (NS_ld _ rfl rfl kr kr kr (c0.ld (o := 2) kr rfl) (NS_i (e.ctx) ((W.rq p no).ctx) (.bool false) rfl rfl kr kr kr kr rfl (by simp; omega) (NS_b 4 kr (NS_ld _ rfl rfl kr kr kr (c0.ld (o := 1) kr rfl) (NS_i ((W.rq p no).peer) (-1) (.bool false) rfl rfl kr kr kr kr rfl (by simp; omega) (NS_b 14 kr (NS_ld _ rfl rfl kr kr kr (c0.ld (o := 3) kr rfl) ?_)))))))))))
   refine NS_i ((W.rq p no).tag) (-1) (.bool true) rfl rfl kr kr kr kr rfl (by simp; omega) (NS_b 4 kr (NS_ld _ rfl rfl kr kr kr (c0.ld (o := 3) kr rfl) (NS_b 1 kr (NS_ld _ rfl rfl kr kr kr (c35.ld (o := 2) kr rfl) (NS_i ((W.rq p no).tag) (e.tag) (.bool true) rfl rfl kr kr kr kr rfl (by simp; omega) (NS_b 3 kr (NS_nil ?_)))))))
   refine W_cond true kr (fun _ => ?_) (fun e => by cases e)
   refine W_sg 1 kr (L_nil (W_ret ?_))
   repeat first | with_reducible refine then_ret ?_ | with_reducible refine blk_ret ?_
   refine done_of (v := .bool false) (.inl rfl) kr ?_
   exact ⟨by rw [hres], T35⟩
  ·
   obtain ⟨hc1, hc2, hc3, hc4, hc5, hres⟩ := hc
   refine W_drawn kr (D_l (l := [0,1,2,3,4,5,6,7,8,9,10,11,12,13,14,15,16,17,18,19,20,21,22,23,24,25,26,27,28,29,30,31,32,33,34,35,36,37,38,39]) kr kr Rk_nil (NS_b 1 kr (NS_ld _ rfl rfl kr kr kr (c35.ld (o := 1) kr rfl) (NS_b 3 kr (NS_ld _ rfl rfl kr kr kr (c0.ld (o := 2) kr rfl) (NS_i (e.ctx) ((W.rq p no).ctx) (.bool false) rfl rfl kr kr kr kr rfl (by simp; omega) (NS_b 4 kr (NS_ld _ rfl rfl kr kr kr (c0.ld (o := 1) kr rfl) (NS_i ((W.rq p no).peer) (-1) (.bool true) rfl rfl kr kr kr kr rfl (by simp; omega) (NS_b 4 kr (NS_ld _ rfl rfl kr kr kr (c0.ld (o := 1) kr rfl) ?_)))))))))))
   refine NS_b 1 kr (NS_ld _ rfl rfl kr kr kr (c35.ld (o := 0) kr rfl) (NS_i ((W.rq p no).peer) (e.src) (.bool false) rfl rfl kr kr kr kr rfl (by simp; omega) (NS_b 6 kr (NS_ld _ rfl rfl kr kr kr (c0.ld (o := 3) kr rfl) (NS_i ((W.rq p no).tag) (-1) (.bool true) rfl rfl kr kr kr kr rfl (by simp; omega) (NS_b 4 kr (NS_ld _ rfl rfl kr kr kr (c0.ld (o := 3) kr rfl) (NS_b 1 kr (NS_ld _ rfl rfl kr kr kr (c35.ld (o := 2) kr rfl) (NS_i ((W.rq p no).tag) (e.tag) (.bool true) rfl rfl kr kr kr kr rfl (by simp; omega) (NS_b 3 kr ?_)))))))))))
   refine NS_nil ?_
   refine W_cond true kr (fun _ => ?_) (fun e => by cases e)
   refine W_sg 1 kr (L_nil (W_ret ?_))
   repeat first | with_reducible refine then_ret ?_ | with_reducible refine blk_ret ?_
   refine done_of (v := .bool false) (.inl rfl) kr ?_
   exact ⟨by rw [hres], T35⟩
  ·
   obtain ⟨hc1, hc2, hc4, hres⟩ := hc
   refine W_drawn kr (D_l (l := [0,1,2,3,4,5,6,7,8,9,10,11,12,13,14,15,16,17,18,19,20,21,22,23,24,25,26,27,28,29,30,31,32,33,34,35,36,37,38,39]) kr kr Rk_nil (NS_b 1 kr (NS_ld _ rfl rfl kr kr kr (c35.ld (o := 1) kr rfl) (NS_b 3 kr (NS_ld _ rfl rfl kr kr kr (c0.ld (o := 2) kr rfl) (NS_i (e.ctx) ((W.rq p no).ctx) (.bool false) rfl rfl kr kr kr kr rfl (by simp; omega) (NS_b 4 kr (NS_ld _ rfl rfl kr kr kr (c0.ld (o := 1) kr rfl) (NS_i ((W.rq p no).peer) (-1) (.bool false) rfl rfl kr kr kr kr rfl (by simp; omega) (NS_b 14 kr (NS_ld _ rfl rfl kr kr kr (c0.ld (o := 3) kr rfl) ?_)))))))))))
   refine NS_i ((W.rq p no).tag) (-1) (.bool false) rfl rfl kr kr kr kr rfl (by simp; omega) (NS_b 11 kr (NS_nil ?_))
   refine W_cond false kr (fun e => by cases e) (fun _ => ?_)
   refine W_skip ?_
   exact ⟨by kernel_rfl, kr, T35, c35, c0, hres⟩
  ·
   obtain ⟨hc1, hc2, hc3, hc4, hres⟩ := hc
   refine W_drawn kr (D_l (l := [0,1,2,3,4,5,6,7,8,9,10,11,12,13,14,15,16,17,18,19,20,21,22,23,24,25,26,27,28,29,30,31,32,33,34,35,36,37,38,39]) kr kr Rk_nil (NS_b 1 kr (NS_ld _ rfl rfl kr kr kr (c35.ld (o := 1) kr rfl) (NS_b 3 kr (NS_ld _ rfl rfl kr kr kr (c0.ld (o := 2) kr rfl) (NS_i (e.ctx) ((W.rq p no).ctx) (.bool false) rfl rfl kr kr kr kr rfl (by simp; omega) (NS_b 4 kr (NS_ld _ rfl rfl kr kr kr (c0.ld (o := 1) kr rfl) (NS_i ((W.rq p no).peer) (-1) (.bool true) rfl rfl kr kr kr kr rfl (by simp; omega) (NS_b 4 kr (NS_ld _ rfl rfl kr kr kr (c0.ld (o := 1) kr rfl) ?_)))))))))))
   refine NS_b 1 kr (NS_ld _ rfl rfl kr kr kr (c35.ld (o := 0) kr rfl) (NS_i ((W.rq p no).peer) (e.src) (.bool false) rfl rfl kr kr kr kr rfl (by simp; omega) (NS_b 6 kr (NS_ld _ rfl rfl kr kr kr (c0.ld (o := 3) kr rfl) (NS_i ((W.rq p no).tag) (-1) (.bool false) rfl rfl kr kr kr kr rfl (by simp; omega) (NS_b 11 kr (NS_nil ?_)))))))
   refine W_cond false kr (fun e => by cases e) (fun _ => ?_)
   refine W_skip ?_
   exact ⟨by kernel_rfl, kr, T35, c35, c0, hres⟩
  ·
   obtain ⟨hc1, hc2, hc4, hc5, hres⟩ := hc
   refine W_drawn kr (D_l (l := [0,1,2,3,4,5,6,7,8,9,10,11,12,13,14,15,16,17,18,19,20,21,22,23,24,25,26,27,28,29,30,31,32,33,34,35,36,37,38,39]) kr kr Rk_nil (NS_b 1 kr (NS_ld _ rfl rfl kr kr kr (c35.ld (o := 1) kr rfl) (NS_b 3 kr (NS_ld _ rfl rfl kr kr kr (c0.ld (o := 2) kr rfl) (NS_i (e.ctx) ((W.rq p no).ctx) (.bool false) rfl rfl kr kr kr kr rfl (by simp; omega) (NS_b 4 kr (NS_ld _ rfl rfl kr kr kr (c0.ld (o := 1) kr rfl) (NS_i ((W.rq p no).peer) (-1) (.bool false) rfl rfl kr kr kr kr rfl (by simp; omega) (NS_b 14 kr (NS_ld _ rfl rfl kr kr kr (c0.ld (o := 3) kr rfl) ?_)))))))))))
   refine NS_i ((W.rq p no).tag) (-1) (.bool true) rfl rfl kr kr kr kr rfl (by simp; omega) (NS_b 4 kr (NS_ld _ rfl rfl kr kr kr (c0.ld (o := 3) kr rfl) (NS_b 1 kr (NS_ld _ rfl rfl kr kr kr (c35.ld (o := 2) kr rfl) (NS_i ((W.rq p no).tag) (e.tag) (.bool false) rfl rfl kr kr kr kr rfl (by simp; omega) (NS_b 3 kr (NS_nil ?_)))))))
   refine W_cond false kr (fun e => by cases e) (fun _ => ?_)
   refine W_skip ?_
   exact ⟨by kernel_rfl, kr, T35, c35, c0, hres⟩
  ·
   obtain ⟨hc1, hc2, hc3, hc4, hc5, hres⟩ := hc
   refine W_drawn kr (D_l (l := [0,1,2,3,4,5,6,7,8,9,10,11,12,13,14,15,16,17,18,19,20,21,22,23,24,25,26,27,28,29,30,31,32,33,34,35,36,37,38,39]) kr kr Rk_nil (NS_b 1 kr (NS_ld _ rfl rfl kr kr kr (c35.ld (o := 1) kr rfl) (NS_b 3 kr (NS_ld _ rfl rfl kr kr kr (c0.ld (o := 2) kr rfl) (NS_i (e.ctx) ((W.rq p no).ctx) (.bool false) rfl rfl kr kr kr kr rfl (by simp; omega) (NS_b 4 kr (NS_ld _ rfl rfl kr kr kr (c0.ld (o := 1) kr rfl) (NS_i ((W.rq p no).peer) (-1) (.bool true) rfl rfl kr kr kr kr rfl (by simp; omega) (NS_b 4 kr (NS_ld _ rfl rfl kr kr kr (c0.ld (o := 1) kr rfl) ?_)))))))))))
   refine NS_b 1 kr (NS_ld _ rfl rfl kr kr kr (c35.ld (o := 0) kr rfl) (NS_i ((W.rq p no).peer) (e.src) (.bool false) rfl rfl kr kr kr kr rfl (by simp; omega) (NS_b 6 kr (NS_ld _ rfl rfl kr kr kr (c0.ld (o := 3) kr rfl) (NS_i ((W.rq p no).tag) (-1) (.bool true) rfl rfl kr kr kr kr rfl (by simp; omega) (NS_b 4 kr (NS_ld _ rfl rfl kr kr kr (c0.ld (o := 3) kr rfl) (NS_b 1 kr (NS_ld _ rfl rfl kr kr kr (c35.ld (o := 2) kr rfl) (NS_i ((W.rq p no).tag) (e.tag) (.bool false) rfl rfl kr kr kr kr rfl (by simp; omega) (NS_b 3 kr ?_)))))))))))
   refine NS_nil ?_
   refine W_cond false kr (fun e => by cases e) (fun _ => ?_)
   refine W_skip ?_
   exact ⟨by kernel_rfl, kr, T35, c35, c0, hres⟩
 ·
  clear T0 c0
  rintro fr hh ⟨y0, y3, T0, c3, c0, hres⟩
  refine W_set (k := 0) y0 (W_set (k := 3) y3 (W_seq ?_))
  by_cases hd1 : e.parts = (W.rq p no).parts
  by_cases hd2 : (W.rq p no).parts = 0
  ·
   refine W_drawn kr (D_l (l := [0,1,2,3,4,5,6,7,8,9,10,11,12,13,14,15,16,17,18,19,20,21,22,23,24,25,26,27,28]) kr kr Rk_nil (NS_b 1 kr (NS_ld _ rfl rfl kr kr kr (c3.ld (o := 4) kr rfl) (NS_b 3 kr (NS_ld _ rfl rfl kr kr kr (c0.ld (o := 10) kr rfl) (NS_i (e.parts) (((W.rq p no).parts : Int)) (.bool true) rfl rfl kr kr kr kr rfl (by simp; omega) (NS_b 4 kr (NS_ld _ rfl rfl kr kr kr (c0.ld (o := 10) kr rfl) (NS_i (((W.rq p no).parts : Int)) (0) (.bool true) rfl rfl kr kr kr kr rfl (by simp; omega) (NS_b 16 kr (NS_nil ?_)))))))))))
   refine W_ret ?_
   repeat first | with_reducible refine then_ret ?_ | with_reducible refine blk_ret ?_
   refine done_of (v := .bool true) (.inl rfl) kr ?_
   exact ⟨by rw [hres]; simp [hd1, hd2], T0⟩
  ·
   refine W_drawn kr (D_l (l := [0,1,2,3,4,5,6,7,8,9,10,11,12,13,14,15,16,17,18,19,20,21,22,23,24,25,26,27,28]) kr kr Rk_nil (NS_b 1 kr (NS_ld _ rfl rfl kr kr kr (c3.ld (o := 4) kr rfl) (NS_b 3 kr (NS_ld _ rfl rfl kr kr kr (c0.ld (o := 10) kr rfl) (NS_i (e.parts) (((W.rq p no).parts : Int)) (.bool true) rfl rfl kr kr kr kr rfl (by simp; omega) (NS_b 4 kr (NS_ld _ rfl rfl kr kr kr (c0.ld (o := 10) kr rfl) (NS_i (((W.rq p no).parts : Int)) (0) (.bool false) rfl rfl kr kr kr kr rfl (by simp; omega) (NS_b 2 kr (NS_ld _ rfl rfl kr kr kr (c3.ld (o := 3) kr rfl) ?_)))))))))))
   refine NS_b 3 kr (NS_ld _ rfl rfl kr kr kr (c0.ld (o := 10) kr rfl) (NS_b 3 kr (NS_ld _ rfl rfl kr kr kr (c0.ld (o := 11) kr rfl) (NS_v (.int .i64 (IntKind.i64.wrap (((W.rq p no).parts : Int) * ((W.rq p no).size : Int)))) rfl kr rfl kr kr (NS_i (e.size) (IntKind.i64.wrap (((W.rq p no).parts : Int) * ((W.rq p no).size : Int))) (.bool (e.size == IntKind.i64.wrap (((W.rq p no).parts : Int) * ((W.rq p no).size : Int)))) rfl rfl kr kr kr kr rfl (rfl) (NS_b 3 kr (NS_nil (W_ret ?_))))))))
   repeat first | with_reducible refine then_ret ?_ | with_reducible refine blk_ret ?_
   refine done_of (v := .bool (e.size == IntKind.i64.wrap (((W.rq p no).parts : Int) * ((W.rq p no).size : Int)))) (.inl rfl) kr ?_
   exact ⟨by rw [hres, wrap_nat hps]; simp [hd1, hd2], T0⟩
  ·
   refine W_drawn kr (D_l (l := [0,1,2,3,4,5,6,7,8,9,10,11,12,13,14,15,16,17,18,19,20,21,22,23,24,25,26,27,28]) kr kr Rk_nil (NS_b 1 kr (NS_ld _ rfl rfl kr kr kr (c3.ld (o := 4) kr rfl) (NS_b 3 kr (NS_ld _ rfl rfl kr kr kr (c0.ld (o := 10) kr rfl) (NS_i (e.parts) (((W.rq p no).parts : Int)) (.bool false) rfl rfl kr kr kr kr rfl (by simp; omega) (NS_b 22 kr (NS_nil (W_ret ?_)))))))))
   repeat first | with_reducible refine then_ret ?_ | with_reducible refine blk_ret ?_
   refine done_of (v := .bool false) (.inl rfl) kr ?_
   exact ⟨by rw [hres]; simp [hd1], T0⟩
end
end Go.Proofs.Ytmehemeoaplepaa
namespace Go.Proofs.Ytmehemeoaplepaa
noncomputable section
open Go Go.X Go.Arm Go.Mt
theorem ptr_one {α : Type} {f : α → Nat} (l : List α) : ∀ x, x ∈ l.map (fun k => ptr (f k)) → x.oneCell' = true := by
 intro x hx
 obtain ⟨y, _, rfl⟩ := List.mem_map.1 hx
 rfl
theorem evR_ct {P : Program} {n : Nat} {f : Fr} {h : AH} {k i : Nat} {T : TypeId} {a : Addr} {v u : Value} (hk : Nat.blt k n = true) (hi : Nat.blt i n = true) (hf : f k = .pointer (some a)) (hl : aLoad P T a h = some v) (h1 : f i = u) : evR P n f h [.cell k T, .tmp i] = some (.tuple ⟨[v, u]⟩) := by
 have e1 : evR1 P n f h (.cell k T) = some v := by unfold evR1; simp only [hk, hf]; exact hl
 have e2 : evR1 P n f h (.tmp i) = some u := by unfold evR1; simp only [hi, h1]
 unfold evR evRL evRL evRL
 rw [e1, e2]
theorem cm1_ok {W : Wd} {G : Gh} {h : AH} {p no mb : Nat} {e : En} {v : Value} (R : Rep W G h) (hp : p < W.n) (hr : G.C (.rq p no) ≠ .no) (hps : (W.rq p no).small) (c : Cl h mb [nv e.src, nv e.ctx, nv e.tag, nv e.size, nv e.parts, v]) :
  Arm.Calls Try.prog 92 [ptr (G.B (.rq p no)), ptr mb] h (fun r => r.1 = .bool ((W.rq p no).fits e) ∧ Sm Nix h r.2) := by
 refine Calls_W 8 Try.f92 ?_
 have T0 : Sm Nix h h := .refl
 refine W_sg 1 kr (L_nil (W_sg 2 kr (L_ld _ rfl rfl kr (Cl.ldS (k := 5) (o := 0) c kr (by simp)) (L_c rfl rfl kr (fits_ok (e := e) (R.ext T0) hp hr hps) ?_))))
 rintro v36 h36 ⟨e36, t36⟩
 try dsimp only at e36
 try dsimp only at t36
 subst e36
 have T36 := T0.ext t36
 have N36 := T36.nx
 have M36 := t36.nx
 refine L_g 1 kr (L_nil (W_ret ?_))
 repeat first | with_reducible refine then_ret ?_ | with_reducible refine blk_ret ?_
 refine done_of (v := .bool ((W.rq p no).fits e)) (.inl rfl) kr ?_
 exact ⟨rfl, T36⟩
theorem st1_ok {W : Wd} {G : Gh} {h : AH} {p no rb : Nat} {e : En} {ty : TypeId} {u : Value} (R : Rep W G h) (hp : p < W.n) (hr : G.C (.rq p no) ≠ .no) (hps : (W.rq p no).small) (c : Cl h rb [ptr (G.B (.rq p no))]) :
  Arm.Calls Try.prog 55 [.agg ⟨[nv e.src, nv e.ctx, nv e.tag, nv e.size, nv e.parts, .iface ty u]⟩, ptr rb] h (fun r => r.1 = .bool ((W.rq p no).fits e) ∧ Sm Nix h r.2) := by
 refine Calls_W 8 Try.f55 ?_
 have T0 : Sm Nix h h := .refl
 refine W_seq (W_region (L_nwc [nv e.src, nv e.ctx, nv e.tag, nv e.size, nv e.parts, .iface ty u] .ptr rfl rfl kr fun h37 c37 t37 n37 => ?_))
 replace c := c.ext t37
 have T37 := T0.ext t37
 have N37 := T37.nx
 refine L_g 1 kr (L_nil (W_seq (W_region (L_ld _ rfl rfl kr (c.ld (o := 0) kr rfl) (L_g 1 kr (L_ld _ rfl rfl kr (Cl.ldS (k := 5) (o := 0) c37 kr (by simp)) (L_c rfl rfl kr (fits_ok (e := e) (R.ext T37) hp hr hps) ?_)))))))
 rintro v38 h38 ⟨e38, t38⟩
 try dsimp only at e38
 try dsimp only at t38
 subst e38
 have T38 := T37.ext t38
 have N38 := T38.nx
 have M38 := t38.nx
 refine L_g 1 kr (L_nil (W_ret ?_))
 repeat first | with_reducible refine then_ret ?_ | with_reducible refine blk_ret ?_
 refine done_of (v := .bool ((W.rq p no).fits e)) (.inl rfl) kr ?_
 exact ⟨rfl, T38⟩
theorem take_rq_no {W : Wd} {G : Gh} {h : AH} {p : Nat} {g : FuncId} {cap : Value} {pr : Nat → Bool} (R : Rep W G h) (hp : p < W.n) (hl : (W.pr p).rcvs.length < big) (hg : ∀ vs h, aCallX Try.prog g vs h = some [(.enter g vs, h)]) (hc : ∀ x, x ∈ (W.pr p).rcvs → ∀ h', Sm Nix h h' → Arm.Calls Try.prog g [ptr (G.B (.rq p x)), cap] h' (fun r => r.1 = .bool (pr x) ∧ Sm Nix h' r.2)) (hf : (W.pr p).rcvs.findIdx? pr = none) :
  Arm.Calls Try.prog 91 [.pointer (some ⟨G.B (.pr p), 5, none⟩), .func (.func g) ⟨[]⟩ ⟨[cap]⟩] h (fun r => r.1 = .tuple ⟨[.pointer none, .bool false]⟩ ∧ Sm Nix h r.2) := by
 refine Calls_W 38 Try.f91 ?_
 have T0 : Sm Nix h h := .refl
 refine W_sg 2 kr (L_nil (W_sg 3 kr (L_ld _ rfl rfl kr (((R.ext T0).prL hp).ld (o := 5) kr rfl) (L_g 1 kr ?_))))
 have hix := ixf_rq (pr := pr) (l := (W.pr p).rcvs) ((R.ext T0).rcv hp).sd hl hg (fun i x hx => ⟨_, by rw [List.getElem?_map, hx]; rfl, fun h' t => hc x (List.mem_of_getElem? hx) _ (T0.ext t)⟩)
 rw [hf] at hix
 refine L_c rfl rfl kr (hix) ?_
 rintro v39 h39 ⟨e39, t39⟩
 try dsimp only at e39
 try dsimp only at t39
 subst e39
 have T39 := T0.ext t39
 have N39 := T39.nx
 have M39 := t39.nx
 refine L_g 1 kr (L_nil (W_seq (W_sg 1 kr (L_i (-1) (0) (.bool true) rfl rfl kr kr rfl (by first | (simp; done) | (simp; omega)) (L_nil ?_)))))
 refine W_cond true kr (fun _ => ?_) (fun e => by cases e)
 refine W_sg 1 kr (L_nil (W_sg 3 kr (L_nil (W_ret ?_))))
 repeat first | with_reducible refine then_ret ?_ | with_reducible refine blk_ret ?_
 refine done_of (v := .tuple ⟨[.pointer none, .bool false]⟩) (.inl rfl) kr ?_
 exact ⟨rfl, T39⟩
theorem take_rq {W : Wd} {G : Gh} {h : AH} {p i : Nat} {x : Nat} {g : FuncId} {cap : Value} {pr : Nat → Bool} (R : Rep W G h) (hp : p < W.n) (hl : (W.pr p).rcvs.length < big) (hg : ∀ vs h, aCallX Try.prog g vs h = some [(.enter g vs, h)]) (hc : ∀ x, x ∈ (W.pr p).rcvs → ∀ h', Sm Nix h h' → Arm.Calls Try.prog g [ptr (G.B (.rq p x)), cap] h' (fun r => r.1 = .bool (pr x) ∧ Sm Nix h' r.2)) (hf : (W.pr p).rcvs.findIdx? pr = some i) (hx : (W.pr p).rcvs[i]? = some x) :
  Arm.Calls Try.prog 91 [.pointer (some ⟨G.B (.pr p), 5, none⟩), .func (.func g) ⟨[]⟩ ⟨[cap]⟩] h (fun r => r.1 = .tuple ⟨[ptr (G.B (.rq p x)), .bool true]⟩ ∧ Nxt (W.setPr p { W.pr p with rcvs := (W.pr p).rcvs.eraseIdx i }) G h r.2) := by
 have hlt : i < (W.pr p).rcvs.length := (List.getElem?_eq_some_iff.1 hx).1
 refine Calls_W 38 Try.f91 ?_
 have T0 : Sm Nix h h := .refl
 refine W_sg 2 kr (L_nil (W_sg 3 kr (L_ld _ rfl rfl kr (((R.ext T0).prL hp).ld (o := 5) kr rfl) (L_g 1 kr ?_))))
 have hix := ixf_rq (pr := pr) (l := (W.pr p).rcvs) ((R.ext T0).rcv hp).sd hl hg (fun i x hx => ⟨_, by rw [List.getElem?_map, hx]; rfl, fun h' t => hc x (List.mem_of_getElem? hx) _ (T0.ext t)⟩)
 rw [hf] at hix
 refine L_c rfl rfl kr (hix) ?_
 rintro v40 h40 ⟨e40, t40⟩
 try dsimp only at e40
 try dsimp only at t40
 subst e40
 have T40 := T0.ext t40
 have N40 := T40.nx
 have M40 := t40.nx
 refine L_g 1 kr (L_nil (W_seq (W_sg 1 kr (L_i ((i : Int)) (0) (.bool false) rfl rfl kr kr rfl (by first | (simp; done) | (simp; omega)) (L_nil ?_)))))
 refine W_cond false kr (fun e => by cases e) (fun _ => ?_)
 refine W_skip (W_sg 3 kr (L_ld _ rfl rfl kr (((R.ext T40).prL hp).ld (o := 5) kr rfl) (L_g 1 kr ?_)))
 obtain ⟨b9, o9, _, i9, l9⟩ := ((R.ext T40).rcv hp).sd.at (P := Try.prog) (T := 85) (el := 103) kr kr hlt .i64
 refine L_ix _ rfl rfl kr kr (i9) ?_
 refine L_ld _ rfl rfl kr (ld_cell kr (by have := l9 0 (by decide); rw [Nat.add_zero, Nat.mul_one, Nat.add_zero, List.getElem?_map, hx] at this; exact this)) ?_
 refine L_g 1 kr (L_nil (W_sg 4 kr (L_ld _ rfl rfl kr (((R.ext T40).prL hp).ld (o := 5) kr rfl) (L_c rfl rfl kr (clone_rq ((R.ext T40).rcv hp).sd (ptr_one _) hl) ?_))))
 rintro v41 h41 ⟨g41, t41, f41⟩
 dsimp only at g41 t41 f41
 obtain ⟨bq, oq, cq, nq, rfl, q1, q2, q3, q4⟩ := g41.open (by omega)
 have hbq : h.next ≤ bq := Nat.le_trans T40.nx (f41 bq rfl)
 have T41 := T40.ext t41
 have N41 := T41.nx
 refine L_g 2 kr (L_i ((i : Int)) (1) (nv ((i + 1 : Nat) : Int)) rfl rfl kr kr rfl (inc_ok (by have : (W.pr p).rcvs.length < 1000000000 := hl; omega)) (L_c rfl rfl kr (del_rq q2 q1 g41.1 q3 q4 (ptr_one _) hlt hl) ?_))
 rintro v42 h42 ⟨e42, g42, t42⟩
 dsimp only at e42 g42 t42
 subst e42
 have hlen : ((W.pr p).rcvs.eraseIdx i).length = (W.pr p).rcvs.length - 1 := List.length_eraseIdx_of_lt hlt
 rw [← hlen, erase_map] at g42
 have T42 : Sm Nix h h42 := T41.trans t42 (fun x hx => .inr (by have hx : x = bq := hx; omega))
 have N42 := T42.nx
 refine L_g 2 kr ?_
 obtain ⟨h43, e43, d43, t43, n43⟩ := ((R.ext T42).prL hp).store (P := Try.prog) (T := 85) (o := 5) (v := (.slice (some ⟨bq, oq, none⟩) ((W.pr p).rcvs.length - 1) open_)) kr rfl rfl (by simp [prC])
 have hpl := R.prLt hp
 have d2 := d43
 rw [← hlen] at d2
 have hN : Nxt (W.setPr p { W.pr p with rcvs := (W.pr p).rcvs.eraseIdx i }) G h h43 := R.setRcv hp (fun k hk => (R.rel.pr p hp).rcp k (List.mem_of_mem_eraseIdx hk)) g42 T42 (fun c hc => hc.elim) (fun c hc => by cases hc; exact .inr hbq) d2 t43
 refine L_st _ rfl rfl rfl kr kr (e43) ?_
 have T43 : Sm Nix h43 h43 := .refl
 refine L_nil (W_sg 3 kr (L_nil (W_ret ?_)))
 repeat first | with_reducible refine then_ret ?_ | with_reducible refine blk_ret ?_
 refine done_of (v := .tuple ⟨[ptr (G.B (.rq p x)), .bool true]⟩) (.inl rfl) kr ?_
 exact ⟨rfl, hN⟩
end
end Go.Proofs.Ytmehemeoaplepaa
namespace Go.Proofs.Ytmehemeoaplepaa
noncomputable section
open Go Go.X Go.Arm Go.Mt
theorem take_ms_no {W : Wd} {G : Gh} {h : AH} {p : Nat} {g : FuncId} {cap : Value} {pr : Ms → Bool} (R : Rep W G h) (hp : p < W.n) (hl : (W.pr p).msgs.length < big) (hg : ∀ vs h, aCallX Try.prog g vs h = some [(.enter g vs, h)]) (hc : ∀ (x : Ms) v, MsV h G.ro v x → ∀ h', Sm Nix h h' → Arm.Calls Try.prog g [.agg ⟨[nv x.en.src, nv x.en.ctx, nv x.en.tag, nv x.en.size, nv x.en.parts, v]⟩, cap] h' (fun r => r.1 = .bool (pr x) ∧ Sm Nix h' r.2)) (hf : (W.pr p).msgs.findIdx? pr = none) :
  Arm.Calls Try.prog 54 [.pointer (some ⟨G.B (.pr p), 4, none⟩), .func (.func g) ⟨[]⟩ ⟨[cap]⟩] h (fun r => r.1 = .tuple ⟨[.agg ⟨[.int .i64 0, .int .i64 0, .int .i64 0, .int .i64 0, .int .i64 0, .nilIface]⟩, .bool false]⟩ ∧ Sm Nix h r.2) := by
 obtain ⟨cs, g0, ls⟩ := R.msg hp
 have h1 := ls.oneMs
 refine Calls_W 38 Try.f54 ?_
 have T0 : Sm Nix h h := .refl
 refine W_seq (W_region (L_nwc [nv 0, nv 0, nv 0, nv 0, nv 0, .nilIface] .ptr rfl rfl kr fun h44 c44 t44 n44 => ?_))
 have T44 := T0.ext t44
 have N44 := T44.nx
 refine L_g 1 kr (L_nil (W_sg 3 kr (L_ld _ rfl rfl kr (((R.ext T44).prL hp).ld (o := 4) kr rfl) (L_g 1 kr ?_))))
 have hix := ixf_ms (pr := pr) (l := (W.pr p).msgs) (g0.sd.ext T44) hl hg (fun i x hx => by
  obtain ⟨c, ⟨v, hv, rfl⟩, hcl, hcc⟩ := ls.get hx
  exact ⟨_, rfl, hcc, fun h' t => hc x v hv _ (T44.ext t)⟩)
 rw [hf] at hix
 refine L_c rfl rfl kr (hix) ?_
 rintro v45 h45 ⟨e45, t45⟩
 try dsimp only at e45
 try dsimp only at t45
 subst e45
 replace c44 := c44.ext t45
 have T45 := T44.ext t45
 have N45 := T45.nx
 have M45 := t45.nx
 refine L_g 1 kr (L_nil (W_seq (W_sg 1 kr (L_i (-1) (0) (.bool true) rfl rfl kr kr rfl (by first | (simp; done) | (simp; omega)) (L_nil ?_)))))
 refine W_cond true kr (fun _ => ?_) (fun e => by cases e)
 refine W_seq (W_region (L_nwc [nv 0, nv 0, nv 0, nv 0, nv 0, .nilIface] .ptr rfl rfl kr fun h46 c46 t46 n46 => ?_))
 replace c44 := c44.ext t46
 have T46 := T45.ext t46
 have N46 := T46.nx
 refine L_nil (W_seq (W_region (L_ld _ rfl rfl kr (Cl.allN (n := 6) c46 rfl kr) ?_)))
 obtain ⟨h47, e47, d47, t47, n47⟩ := c44.sA 117 [.int .i64 0, .int .i64 0, .int .i64 0, .int .i64 0, .int .i64 0, .nilIface]
 replace c44 := d47
 have T47 := T46.tr t47
 have N47 := T47.nx
 refine L_st _ rfl rfl rfl kr kr (e47) (L_g 1 kr (L_nil (W_ret ?_)))
 repeat first | with_reducible refine then_ret ?_ | with_reducible refine blk_ret ?_
 refine done_of (.inl rfl) (evR_ct kr kr (a := ⟨h.next, 0, none⟩) kr (Cl.allN (n := 6) c44 rfl kr) (u := .bool false) kr) ?_
 exact ⟨rfl, T47⟩
theorem take_ms {W : Wd} {G : Gh} {h : AH} {p i : Nat} {x : Ms} {g : FuncId} {cap : Value} {pr : Ms → Bool} (R : Rep W G h) (hp : p < W.n) (hl : (W.pr p).msgs.length < big) (hg : ∀ vs h, aCallX Try.prog g vs h = some [(.enter g vs, h)]) (hc : ∀ (x : Ms) v, MsV h G.ro v x → ∀ h', Sm Nix h h' → Arm.Calls Try.prog g [.agg ⟨[nv x.en.src, nv x.en.ctx, nv x.en.tag, nv x.en.size, nv x.en.parts, v]⟩, cap] h' (fun r => r.1 = .bool (pr x) ∧ Sm Nix h' r.2)) (hf : (W.pr p).msgs.findIdx? pr = some i) (hx : (W.pr p).msgs[i]? = some x) :
  Arm.Calls Try.prog 54 [.pointer (some ⟨G.B (.pr p), 4, none⟩), .func (.func g) ⟨[]⟩ ⟨[cap]⟩] h (fun r => ∃ v, MsV h G.ro v x ∧ r.1 = .tuple ⟨[.agg ⟨[nv x.en.src, nv x.en.ctx, nv x.en.tag, nv x.en.size, nv x.en.parts, v]⟩, .bool true]⟩ ∧ Nxt (W.setPr p { W.pr p with msgs := (W.pr p).msgs.eraseIdx i }) G h r.2) := by
 obtain ⟨cs, g0, ls⟩ := R.msg hp
 have h1 := ls.oneMs
 have hlt : i < (W.pr p).msgs.length := (List.getElem?_eq_some_iff.1 hx).1
 obtain ⟨c, ⟨v, hv, hce⟩, hcl, hcc⟩ := ls.get hx
 obtain ⟨ty, u, hvi⟩ := hv.iface
 subst hvi
 subst hce
 refine Calls_W 38 Try.f54 ?_
 have T0 : Sm Nix h h := .refl
 refine W_seq (W_region (L_nwc [nv 0, nv 0, nv 0, nv 0, nv 0, .nilIface] .ptr rfl rfl kr fun h48 c48 t48 n48 => ?_))
 have T48 := T0.ext t48
 have N48 := T48.nx
 refine L_g 1 kr (L_nil (W_sg 3 kr (L_ld _ rfl rfl kr (((R.ext T48).prL hp).ld (o := 4) kr rfl) (L_g 1 kr ?_))))
 have hix := ixf_ms (pr := pr) (l := (W.pr p).msgs) (g0.sd.ext T48) hl hg (fun i x hx => by
  obtain ⟨c, ⟨v, hv, rfl⟩, hcl, hcc⟩ := ls.get hx
  exact ⟨_, rfl, hcc, fun h' t => hc x v hv _ (T48.ext t)⟩)
 rw [hf] at hix
 refine L_c rfl rfl kr (hix) ?_
 rintro v49 h49 ⟨e49, t49⟩
 try dsimp only at e49
 try dsimp only at t49
 subst e49
 replace c48 := c48.ext t49
 have T49 := T48.ext t49
 have N49 := T49.nx
 have M49 := t49.nx
 refine L_g 1 kr (L_nil (W_seq (W_sg 1 kr (L_i ((i : Int)) (0) (.bool false) rfl rfl kr kr rfl (by first | (simp; done) | (simp; omega)) (L_nil ?_)))))
 refine W_cond false kr (fun e => by cases e) (fun _ => ?_)
 refine W_skip (W_sg 3 kr (L_ld _ rfl rfl kr (((R.ext T49).prL hp).ld (o := 4) kr rfl) (L_g 1 kr ?_)))
 obtain ⟨b9, o9, _, i9, l9⟩ := (g0.sd.ext T49).at (P := Try.prog) (T := 82) (el := 117) kr kr hlt .i64
 refine L_ix _ rfl rfl kr kr (i9) (L_ld _ rfl rfl kr (ld_l (l := [nv x.en.src, nv x.en.ctx, nv x.en.tag, nv x.en.size, nv x.en.parts, .iface ty u]) kr (fun j hj => by rw [l9 j hj]; exact hcc j hj)) (L_nwc [nv 0, nv 0, nv 0, nv 0, nv 0, .nilIface] .ptr rfl rfl kr fun h50 c50 t50 n50 => ?_))
 replace c48 := c48.ext t50
 have T50 := T49.ext t50
 have N50 := T50.nx
 obtain ⟨h51, e51, d51, t51, n51⟩ := c50.sA 117 [nv x.en.src, nv x.en.ctx, nv x.en.tag, nv x.en.size, nv x.en.parts, .iface ty u]
 replace c48 := c48.sn t51
 replace c50 := d51
 have T51 := T50.tr t51
 have N51 := T51.nx
 refine L_st _ rfl rfl rfl kr kr (e51) (L_nil (W_sg 4 kr (L_ld _ rfl rfl kr (((R.ext T51).prL hp).ld (o := 4) kr rfl) (L_c rfl rfl kr (clone_ms (g0.sd.ext T51) h1 hl) ?_))))
 have Rb := (R.ext T51)
 have l4 := c48.lt
 have l8 := c50.lt
 rintro v52 h52 ⟨g52, t52, f52⟩
 dsimp only at g52 t52 f52
 obtain ⟨bq, oq, cq, nq, rfl, q1, q2, q3, q4⟩ := g52.open (by omega)
 have hbq : h51.next ≤ bq := f52 bq rfl
 replace c48 := c48.ext t52
 replace c50 := c50.ext t52
 have T52 : Sm Nix h51 h52 := t52
 have N52 := T52.nx
 refine L_g 2 kr (L_i ((i : Int)) (1) (nv ((i + 1 : Nat) : Int)) rfl rfl kr kr rfl (inc_ok (by have : (W.pr p).msgs.length < 1000000000 := hl; omega)) (L_c rfl rfl kr (del_ms q2 q1 g52.1 q3 q4 h1 hlt hl) ?_))
 rintro v53 h53 ⟨e53, g53, t53⟩
 dsimp only at e53 g53 t53
 subst e53
 have hlen : ((W.pr p).msgs.eraseIdx i).length = (W.pr p).msgs.length - 1 := List.length_eraseIdx_of_lt hlt
 rw [← hlen] at g53
 have ls2 := (ls.erase i hlt).mono fun _ _ z => z.mono (R.op.dr (T51).of)
 replace c48 := c48.sn t53
 replace c50 := c50.sn t53
 have T53 : Sm Nix h51 h53 := T52.trans t53 (fun x hx => .inr (by have hx : x = bq := hx; omega))
 have N53 := T53.nx
 refine L_g 2 kr ?_
 obtain ⟨h54, e54, d54, t54, n54⟩ := ((Rb.ext T53).prL hp).store (P := Try.prog) (T := 82) (o := 4) (v := (.slice (some ⟨bq, oq, none⟩) ((W.pr p).msgs.length - 1) open_)) kr rfl rfl (by simp [prC])
 have hpl := R.prLt hp
 have d2 := d54
 rw [← hlen] at d2
 have hN : Nxt (W.setPr p { W.pr p with msgs := (W.pr p).msgs.eraseIdx i }) G h51 h54 := Rb.setMsg hp ls2 g53 T53 (fun c hc => hc.elim) (fun c hc => by cases hc; exact .inr hbq) d2 t54
 refine L_st _ rfl rfl rfl kr kr (e54) ?_
 replace c48 := c48.sn t54
 replace c50 := c50.sn t54
 obtain ⟨S9, C9, ro9, R9, Y9⟩ := hN
 have m4 : ¬ (Gh.mut ⟨G.B, S9, C9, ro9⟩) (h.next) ∧ ¬ (Gh.ro ⟨G.B, S9, C9, ro9⟩) (h.next) := ⟨fun hm => (Y9.mu _ hm).elim (R.op.new (by omega)) (fun e => by omega), fun hm => (Y9.ron _ hm).elim (R.op.newr (by omega)) (fun e => by omega)⟩
 have X9 := (Gx.of T51).trans Y9
 have T9 : Sm (Ow h ⟨G.B, S9, C9, ro9⟩) h54 h54 := .refl
 have N9 := T9.nx
 refine L_nil (W_seq (W_region (L_ld _ rfl rfl kr (Cl.allN (n := 6) c50 rfl kr) ?_)))
 obtain ⟨h55, e55, d55, t55, n55⟩ := c48.sA 117 [nv x.en.src, nv x.en.ctx, nv x.en.tag, nv x.en.size, nv x.en.parts, .iface ty u]
 replace c48 := d55
 have T55 : Sm (Ow h ⟨G.B, S9, C9, ro9⟩) h54 h55 := T9.trans t55 (fun x hx => by have hx : x = h.next := hx; subst hx; first | exact .inr (by omega) | exact .inl ⟨by omega, m4.1, m4.2⟩ | exact .inl rfl)
 have N55 := T55.nx
 refine L_st _ rfl rfl rfl kr kr (e55) (L_g 1 kr (L_nil (W_ret ?_)))
 repeat first | with_reducible refine then_ret ?_ | with_reducible refine blk_ret ?_
 refine done_of (.inl rfl) (evR_ct kr kr (a := ⟨h.next, 0, none⟩) kr (Cl.allN (n := 6) c48 rfl kr) (u := .bool true) kr) ?_
 exact ⟨_, hv, rfl, S9, C9, ro9, R9.ow T55, X9.ow T55⟩
end
end Go.Proofs.Ytmehemeoaplepaa
namespace Go.Proofs.Ytmehemeoaplepaa
noncomputable section
open Go Go.X Go.Arm Go.Mt
theorem cl_sdk {h : AH} {b : Nat} {cs : List Value} (k : Nat) (hc : Arm.Cl h b cs) (hn : cs.length = k) : Sd h k (.slice (some ⟨b, 0, none⟩) 1 1) 1 cs := by
 obtain ⟨h1, c, op, h2, h3⟩ := hc
 exact ⟨by omega, .inr ⟨b, 0, 1, c, cs.length, op, false, by decide, by decide, rfl, h1, h2, by omega, fun j hj => by rw [Nat.zero_add]; exact h3 j hj⟩⟩
theorem putq_rq {W : Wd} {G : Gh} {h : AH} {p no : Nat} (R : Rep W G h) (hp : p < W.n) (hr : G.C (.rq p no) ≠ .no) (hl : (W.pr p).rcvs.length < big) :
  Arm.Calls Try.prog 57 [.pointer (some ⟨G.B (.pr p), 5, none⟩), ptr (G.B (.rq p no))] h (fun r => Nxt (W.setPr p { W.pr p with rcvs := (W.pr p).rcvs ++ [no] }) G h r.2) := by
 have hl : (W.pr p).rcvs.length < 1000000000 := hl
 refine Calls_W 14 Try.f57 ?_
 have T0 : Sm Nix h h := .refl
 refine W_rg 4 kr (L_ld _ rfl rfl kr (((R.ext T0).prL hp).ld (o := 5) kr rfl) (L_g 1 kr (L_nwc [ptr (G.B (.rq p no))] (.sl 1 1) rfl rfl kr fun h56 c56 t56 n56 => ?_)))
 have T56 := T0.ext t56
 have N56 := T56.nx
 have g0 := (R.ext T56).rcv hp
 obtain ⟨v57, h57, e57, g57, t57, f57⟩ := g0.append (P := Try.prog) (sT := 85) (xT := 85) (el := 103) (by_ := 8) (z := .pointer none) (m := 1) (ds := [ptr (G.B (.rq p no))]) kr kr kr kr kr rfl (by decide) (c56.sd rfl) (List.all_eq_true.1 rfl) (by omega)
 obtain ⟨va, vc, rfl⟩ := g57.sd.form
 refine L_bi (.slice va ((W.pr p).rcvs.length + 1) vc) h57 rfl rfl kr (vs := [G.S (.rcv p), .slice (some ⟨h.next, 0, none⟩) 1 1]) kr (bi_append e57) ?_
 replace c56 := c56.lt
 have T57 : Sm (fun c => vb (G.S (.rcv p)) = some c) h56 h57 := t57
 have N57 := T57.nx
 refine L_g 2 kr ?_
 have Rb := R.ext T56
 have hnw : ¬ vb (G.S (.rcv p)) = some (G.B (.pr p)) := fun e => Rb.op.ne (r := .rcv p) (r' := .pr p) (by rw [(Rb.rel.pr p hp).rcv]; simp) (by rw [(Rb.rel.pr p hp).pr]; simp) (by simp) (vb_vbx e) rfl
 obtain ⟨h58, e58, d58, t58, n58⟩ := ((Rb.prL hp).sm T57 hnw).store (P := Try.prog) (T := 85) (o := 5) (v := .slice va ((W.pr p).rcvs.length + 1) vc) kr rfl rfl (by simp [prC])
 have hlen : ((W.pr p).rcvs ++ [no]).length = (W.pr p).rcvs.length + 1 := by simp
 rw [← hlen] at d58
 have hN : Nxt (W.setPr p { W.pr p with rcvs := (W.pr p).rcvs ++ [no] }) G h56 h58 := Rb.setRcv hp (fun k hk => by rcases List.mem_append.1 hk with hk | hk; exact (R.rel.pr p hp).rcp k hk; cases List.mem_singleton.1 hk; exact hr) (by rw [hlen]; rw [List.map_append]; exact g57) T57 (fun c hc => .inl hc) (fun c hc => by rw [hlen] at hc; exact f57 c hc) d58 t58
 refine L_st _ rfl rfl rfl kr kr (e58) ?_
 have T58 : Sm Nix h58 h58 := .refl
 refine L_nil ?_
 repeat with_reducible refine blk_norm ?_
 refine done_of (v := .tuple ⟨[]⟩) (.inr rfl) kr ?_
 exact Nxt.pre T56 hN
theorem putq_ms {W : Wd} {G : Gh} {h : AH} {p : Nat} {m : Ms} {ty : TypeId} {u : Value} (R : Rep W G h) (hp : p < W.n) (hv : MsV h G.ro (.iface ty u) m) (hl : (W.pr p).msgs.length < big) :
  Arm.Calls Try.prog 93 [.pointer (some ⟨G.B (.pr p), 4, none⟩), .agg ⟨[nv m.en.src, nv m.en.ctx, nv m.en.tag, nv m.en.size, nv m.en.parts, .iface ty u]⟩] h (fun r => Nxt (W.setPr p { W.pr p with msgs := (W.pr p).msgs ++ [m] }) G h r.2) := by
 have hl : (W.pr p).msgs.length < 1000000000 := hl
 refine Calls_W 14 Try.f93 ?_
 have T0 : Sm Nix h h := .refl
 refine W_seq (W_region (L_nwc [nv m.en.src, nv m.en.ctx, nv m.en.tag, nv m.en.size, nv m.en.parts, .iface ty u] .ptr rfl rfl kr fun h59 c59 t59 n59 => ?_))
 have T59 := T0.ext t59
 have N59 := T59.nx
 refine L_nil (W_drawn kr (D_e (e := 7) (l := [0,1,2,3,4,5,6]) (s' := [0]) kr kr rfl kr Rk_nil (NS_b 4 kr (NS_ld _ rfl rfl kr kr kr (((R.ext T59).prL hp).ld (o := 4) kr rfl) (NS_ld _ rfl rfl kr kr kr (Cl.allN (n := 6) c59 rfl kr) (NS_nwc [nv m.en.src, nv m.en.ctx, nv m.en.tag, nv m.en.size, nv m.en.parts, .iface ty u] (.sl 1 1) rfl kr rfl rfl kr (Rk_1 rfl rfl (Rk_1 rfl rfl (Rk_1 rfl rfl (Rk_1 rfl rfl (Rk_ld _ rfl rfl rfl kr (((R.ext (T59.ext (.push h59 _))).prL hp).ld (o := 4) kr rfl) kr (Rk_ld _ rfl rfl rfl kr (Cl.allN (n := 6) (c59.ext (.push h59 _)) rfl kr) kr (Rk_1 rfl rfl Rk_nil))))))) fun h60 c60 t60 n60 => ?_))))))
 replace c59 := c59.ext t60
 have T60 := T59.ext t60
 have N60 := T60.nx
 refine NS_nil ?_
 obtain ⟨cs, g0, ls⟩ := (R.ext T60).msg hp
 obtain ⟨v61, h61, e61, g61, t61, f61⟩ := g0.append (P := Try.prog) (sT := 82) (xT := 82) (el := 117) (by_ := 56) (z := (.agg ⟨[.int .i64 0, .int .i64 0, .int .i64 0, .int .i64 0, .int .i64 0, .nilIface]⟩)) (m := 1) (ds := [nv m.en.src, nv m.en.ctx, nv m.en.tag, nv m.en.size, nv m.en.parts, .iface ty u]) kr kr kr kr kr rfl (by decide) (cl_sdk 6 c60 rfl) (List.all_eq_true.1 rfl) (by omega)
 obtain ⟨va, vc, rfl⟩ := g61.sd.form
 refine L_bi (.slice va ((W.pr p).msgs.length + 1) vc) h61 rfl rfl kr (vs := [G.S (.msg p), .slice (some ⟨h59.next, 0, none⟩) 1 1]) kr (bi_append e61) ?_
 replace c59 := c59.lt
 replace c60 := c60.lt
 have T61 : Sm (fun c => vb (G.S (.msg p)) = some c) h60 h61 := t61
 have N61 := T61.nx
 refine L_nil ⟨rfl, ?_⟩
 refine D_e (e := 10) (l := [8,9]) (s' := []) kr kr rfl kr (Rk_noRead kr) (NS_b 2 kr (NS_nil ?_))
 have Rb := R.ext T60
 have hnw : ¬ vb (G.S (.msg p)) = some (G.B (.pr p)) := fun e => Rb.op.ne (r := .msg p) (r' := .pr p) (by obtain ⟨cs, e, _⟩ := (Rb.rel.pr p hp).msg; rw [e]; simp) (by rw [(Rb.rel.pr p hp).pr]; simp) (by simp) (vb_vbx e) rfl
 obtain ⟨h62, e62, d62, t62, n62⟩ := ((Rb.prL hp).sm T61 hnw).store (P := Try.prog) (T := 82) (o := 4) (v := .slice va ((W.pr p).msgs.length + 1) vc) kr rfl rfl (by simp [prC])
 have hlen : ((W.pr p).msgs ++ [m]).length = (W.pr p).msgs.length + 1 := by simp
 rw [← hlen] at d62
 have hN : Nxt (W.setPr p { W.pr p with msgs := (W.pr p).msgs ++ [m] }) G h60 h62 := Rb.setMsg hp (ls.app (Ls.one ⟨_, hv.mono (R.op.dr (T60).of), rfl⟩ rfl)) (by rw [hlen]; exact g61) T61 (fun c hc => .inl hc) (fun c hc => by rw [hlen] at hc; exact f61 c hc) d62 t62
 refine L_st _ rfl rfl rfl kr kr (e62) ?_
 have T62 : Sm Nix h62 h62 := .refl
 refine L_nil ⟨rfl, ?_⟩
 refine D_l (l := []) kr kr Rk_nil (NS_nil ?_)
 repeat with_reducible refine blk_norm ?_
 refine done_of (v := .tuple ⟨[]⟩) (.inr rfl) kr ?_
 exact Nxt.pre T60 hN
end
end Go.Proofs.Ytmehemeoaplepaa
namespace Go.Proofs.Ytmehemeoaplepaa
noncomputable section
open Go Go.X Go.Arm Go.Mt
theorem kset_map {κ : Type} [DecidableEq κ] (f : Nat → Value) (l : List (κ × Nat)) (k : κ) (n : Nat) : kset (l.map fun e => (e.1, f e.2)) k (f n) = (kset l k n).map fun e => (e.1, f e.2) := by
 induction l with
 | nil => rfl
 | cons x l ih =>
  simp only [List.map_cons]
  unfold kset
  split
  · rfl
  · rw [List.map_cons, ih]
theorem kset_mem {κ β : Type} [DecidableEq κ] {l : List (κ × β)} {k : κ} {n : β} {x : κ × β} (h : x ∈ kset l k n) : x ∈ l ∨ x.2 = n := by
 induction l with
 | nil => simp [kset] at h; exact .inr (by rw [h])
 | cons y l ih =>
  unfold kset at h
  split at h
  · rcases List.mem_cons.1 h with h | h
    · exact .inr (by rw [h])
    · exact .inl (List.mem_cons_of_mem _ h)
  · rcases List.mem_cons.1 h with h | h
    · exact .inl (by rw [h]; simp)
    · exact (ih h).imp (List.mem_cons_of_mem _) id
theorem _root_.Go.Arm.Dr.mono0 {h h' : AH} {ro ro' : Nat → Prop} {v : Value} {d : By} (H : Dr h ro v d) (f : ∀ v d, Dr h ro v d → Dr h' ro' v d) : Dr h' ro' v d := f v d H
set_option maxHeartbeats 1000000 in
theorem match_ok {W : Wd} {G : Gh} {h : AH} {p no : Nat} {m : Ms} {W' : Wd} {v : Value} (R : Rep W G h) (hp : p < W.n) (hr : G.C (.rq p no) ≠ .no) (hv : MsV h G.ro v m) (he : W.mtch p no m = some W') :
  Arm.Calls Try.prog 56 [ptr (G.B .wd), nv (p : Int), ptr (G.B (.rq p no)), .agg ⟨[nv m.en.src, nv m.en.ctx, nv m.en.tag, nv m.en.size, nv m.en.parts, v]⟩] h (fun r => Nxt W' G h r.2) := by
 cases m with
 | eager e d =>
  obtain ⟨dv, hd, rfl⟩ := hv
  obtain ⟨da, dc, rfl⟩ := hd.1.form
  unfold Wd.mtch at he
  dsimp only [Ms.en] at he ⊢
  split at he
  · rename_i hcond
    obtain ⟨hl, h0⟩ := hcond
    unfold Wd.put at he
    split at he
    · rename_i hlw
      obtain rfl := Option.some.inj he
      clear he
      rw [← Wd.setRq_setRq W p no { W.rq p no with st := ⟨e.src, e.tag, e.size, 0⟩ }] at hlw ⊢
      refine Calls_W 70 Try.f56 ?_
      have T0 : Sm Nix h h := .refl
      refine W_seq (W_region ?_)
      have m63 : ¬ (Gh.mut G) h.next ∧ ¬ (Gh.ro G) h.next := ⟨(R.ext T0).op.new (Nat.le_refl _), (R.ext T0).op.newr (Nat.le_refl _)⟩
      refine L_nwc [nv e.src, nv e.ctx, nv e.tag, nv e.size, nv e.parts, .iface Tys.e (.agg ⟨[nv e.src, nv e.ctx, nv e.tag, nv e.size, nv e.parts, .slice da (List.map bv d).length dc]⟩)] .ptr rfl rfl kr fun h63 c63 t63 n63 => ?_
      have T63 := T0.ext t63
      have N63 := T63.nx
      refine L_nil (W_sg 3 kr (L_ld _ rfl rfl kr (c63.ld (o := 0) kr rfl) (L_g 2 kr (L_ld _ rfl rfl kr (c63.ld (o := 2) kr rfl) (L_g 2 kr (L_ld _ rfl rfl kr (c63.ld (o := 3) kr rfl) (L_g 3 kr ?_)))))))
      obtain ⟨dv9, hd9, c9⟩ := (R.ext T63).rqL hp hr
      replace c9 : Cl h63 (Gh.B G (.rq p no)) [nk (W.rq p no).no, nv (W.rq p no).peer, nv (W.rq p no).ctx, nv (W.rq p no).tag, nv (W.rq p no).room, .bool (W.rq p no).send, .bool (W.rq p no).sync, .bool (W.rq p no).pers, .bool (W.rq p no).act, .bool (W.rq p no).done, nk (W.rq p no).parts, nk (W.rq p no).size, dv9, G.S (.pcs p no), nk (W.rq p no).gone, G.S (.snt p no), .bool (W.rq p no).clr, nv (W.rq p no).st.src, nv (W.rq p no).st.tag, nv (W.rq p no).st.size, nv (W.rq p no).st.err] := c9
      obtain ⟨h64, e64, d64, t64, n64⟩ := c9.storeAt (P := Try.prog) (T := 43) (o := 17) (v := .agg ⟨[nv e.src, nv e.tag, nv e.size, nv 0]⟩) (vs := [nv e.src, nv e.tag, nv e.size, nv 0]) kr rfl (by simp) (List.all_eq_true.1 rfl)
      have N64 : Nxt (W.setRq p no { (W.rq p no) with st := ⟨e.src, e.tag, e.size, 0⟩ }) G h63 h64 := (R.ext T63).stRq hp hr (r := { (W.rq p no) with st := ⟨e.src, e.tag, e.size, 0⟩ }) hd9 d64 t64 rfl rfl rfl
      clear hd9
      refine L_st _ rfl rfl rfl kr kr (e64) ?_
      obtain ⟨S64, C64, ro64, R64, Y64⟩ := N64
      have X64 := ((Gx.refl).trans (Gx.of T63)).trans Y64
      have hr_64 := (Y64.keep _ hr).1
      have m63_64 : ¬ (Gh.mut ⟨Gh.B G, S64, C64, ro64⟩) (h.next) ∧ ¬ (Gh.ro ⟨Gh.B G, S64, C64, ro64⟩) (h.next) := ⟨fun hm => (Y64.mu _ hm).elim m63.1 (fun e => by have := c63.lt; omega), fun hm => (Y64.ron _ hm).elim m63.2 (fun e => by have := c63.lt; omega)⟩
      replace c63 := c63.sm Y64.sm m63.1
      have T64 : Sm (Ow h (⟨Gh.B G, S64, C64, ro64⟩ : Gh)) h64 h64 := .refl
      refine L_nil (W_sg 1 kr (L_ld _ rfl rfl kr (c63.ld (o := 5) kr rfl) (L_nil (W_block (W_sg 3 kr (L_nil ?_))))))
      refine W_cond true kr (fun _ => ?_) (fun e => by cases e)
      refine W_seq (W_region ?_)
      have m65 : ¬ (Gh.mut (⟨Gh.B G, S64, C64, ro64⟩ : Gh)) h64.next ∧ ¬ (Gh.ro (⟨Gh.B G, S64, C64, ro64⟩ : Gh)) h64.next := ⟨(R64.ow T64).op.new (Nat.le_refl _), (R64.ow T64).op.newr (Nat.le_refl _)⟩
      refine L_nw (Al.cells [nv 0, nv 0, nv 0, nv 0, nv 0, .slice none 0 0]) .ptr rfl rfl kr ?_
      have l65_t7 := c63.lt
      have c65 : Cl (h64.push (Al.cells [nv 0, nv 0, nv 0, nv 0, nv 0, .slice none 0 0]).obj) h64.next [nv 0, nv 0, nv 0, nv 0, nv 0, .slice none 0 0] := Cl.new h64 _
      have t65 : Sm Nix h64 (h64.push (Al.cells [nv 0, nv 0, nv 0, nv 0, nv 0, .slice none 0 0]).obj) := .push h64 _
      have n65 : (h64.push (Al.cells [nv 0, nv 0, nv 0, nv 0, nv 0, .slice none 0 0]).obj).next = h64.next + 1 := rfl
      generalize h64.push (Al.cells [nv 0, nv 0, nv 0, nv 0, nv 0, .slice none 0 0]).obj = h65 at c65 t65 n65 ⊢
      replace c63 := c63.ext t65
      have T65 : Sm (Ow h (⟨Gh.B G, S64, C64, ro64⟩ : Gh)) h64 h65 := T64.ext t65
      have N65 := T65.nx
      obtain ⟨h66, e66, d66, t66, n66⟩ := c65.sA 144 [nv e.src, nv e.ctx, nv e.tag, nv e.size, nv e.parts, .slice da (List.map bv d).length dc]
      replace c63 := c63.sn t66
      replace c65 := d66
      have T66 : Sm (Ow h (⟨Gh.B G, S64, C64, ro64⟩ : Gh)) h64 h66 := T65.trans t66 (fun x hx => by have hx : x = h64.next := hx; subst hx; first | exact .inr (by omega) | exact .inl ⟨by omega, m65.1, m65.2⟩ | exact .inl rfl)
      have N66 := T66.nx
      refine L_st _ rfl rfl rfl kr kr (e66) (L_nil (W_sg 2 kr (L_ld _ rfl rfl kr (c65.ld (o := 5) kr rfl) (L_c rfl rfl kr (gets_ok (R64.ow T66) hp hr_64 (hd.mono0 (Gx.dr ((X64).ow T66) R.op)) hl (by rw [Wd.setRq_at]; exact h0)) ?_))))
      rintro v67 h67 N67
      dsimp only at N67
      obtain ⟨S67, C67, ro67, R67, Y67⟩ := N67
      have X67 := ((X64).ow T66).trans Y67
      have hr_67 := (Y67.keep _ hr_64).1
      have m63_64_67 : ¬ (Gh.mut ⟨Gh.B (⟨Gh.B G, S64, C64, ro64⟩ : Gh), S67, C67, ro67⟩) (h.next) ∧ ¬ (Gh.ro ⟨Gh.B (⟨Gh.B G, S64, C64, ro64⟩ : Gh), S67, C67, ro67⟩) (h.next) := ⟨fun hm => (Y67.mu _ hm).elim m63_64.1 (fun e => by have := c63.lt; omega), fun hm => (Y67.ron _ hm).elim m63_64.2 (fun e => by have := c63.lt; omega)⟩
      replace c63 := c63.sm Y67.sm m63_64.1
      have m65_67 : ¬ (Gh.mut ⟨Gh.B (⟨Gh.B G, S64, C64, ro64⟩ : Gh), S67, C67, ro67⟩) (h64.next) ∧ ¬ (Gh.ro ⟨Gh.B (⟨Gh.B G, S64, C64, ro64⟩ : Gh), S67, C67, ro67⟩) (h64.next) := ⟨fun hm => (Y67.mu _ hm).elim m65.1 (fun e => by have := c65.lt; omega), fun hm => (Y67.ron _ hm).elim m65.2 (fun e => by have := c65.lt; omega)⟩
      replace c65 := c65.sm Y67.sm m65.1
      have T67 : Sm (Ow h (⟨Gh.B (⟨Gh.B G, S64, C64, ro64⟩ : Gh), S67, C67, ro67⟩ : Gh)) h67 h67 := .refl
      refine L_nil (W_rg 4 kr (L_ld _ rfl rfl kr (c63.ld (o := 0) kr rfl) (L_g 2 kr (L_c rfl rfl kr (put_ok (R67.ow T67) (x := .credit) rfl hlw) ?_))))
      rintro v68 h68 N68
      dsimp only at N68
      obtain ⟨S68, C68, ro68, R68, Y68⟩ := N68
      have X68 := ((X67).ow T67).trans Y68
      have hr_68 := (Y68.keep _ hr_67).1
      have m63_64_67_68 : ¬ (Gh.mut ⟨Gh.B (⟨Gh.B (⟨Gh.B G, S64, C64, ro64⟩ : Gh), S67, C67, ro67⟩ : Gh), S68, C68, ro68⟩) (h.next) ∧ ¬ (Gh.ro ⟨Gh.B (⟨Gh.B (⟨Gh.B G, S64, C64, ro64⟩ : Gh), S67, C67, ro67⟩ : Gh), S68, C68, ro68⟩) (h.next) := ⟨fun hm => (Y68.mu _ hm).elim m63_64_67.1 (fun e => by have := c63.lt; omega), fun hm => (Y68.ron _ hm).elim m63_64_67.2 (fun e => by have := c63.lt; omega)⟩
      have m65_67_68 : ¬ (Gh.mut ⟨Gh.B (⟨Gh.B (⟨Gh.B G, S64, C64, ro64⟩ : Gh), S67, C67, ro67⟩ : Gh), S68, C68, ro68⟩) (h64.next) ∧ ¬ (Gh.ro ⟨Gh.B (⟨Gh.B (⟨Gh.B G, S64, C64, ro64⟩ : Gh), S67, C67, ro67⟩ : Gh), S68, C68, ro68⟩) (h64.next) := ⟨fun hm => (Y68.mu _ hm).elim m65_67.1 (fun e => by have := c65.lt; omega), fun hm => (Y68.ron _ hm).elim m65_67.2 (fun e => by have := c65.lt; omega)⟩
      have T68 : Sm (Ow h (⟨Gh.B (⟨Gh.B (⟨Gh.B G, S64, C64, ro64⟩ : Gh), S67, C67, ro67⟩ : Gh), S68, C68, ro68⟩ : Gh)) h68 h68 := .refl
      refine L_nil ?_
      repeat with_reducible refine blk_norm ?_
      refine done_of (v := .tuple ⟨[]⟩) (.inr rfl) kr ?_
      have R9 := (R68.ow T68)
      rw [Wd.setRq_at] at R9
      exact ⟨_, _, _, R9, ((X68).ow T68)⟩
    · cases he
  · cases he
 | ask e q =>
  obtain rfl := hv
  unfold Wd.mtch at he
  dsimp only [Ms.en] at he ⊢
  unfold Wd.put at he
  split at he
  · rename_i hlw
    obtain rfl := Option.some.inj he
    clear he
    refine Calls_W 70 Try.f56 ?_
    have T0 : Sm Nix h h := .refl
    refine W_seq (W_region ?_)
    have m69 : ¬ (Gh.mut G) h.next ∧ ¬ (Gh.ro G) h.next := ⟨(R.ext T0).op.new (Nat.le_refl _), (R.ext T0).op.newr (Nat.le_refl _)⟩
    refine L_nwc [nv e.src, nv e.ctx, nv e.tag, nv e.size, nv e.parts, .iface Tys.a (.agg ⟨[nv e.src, nv e.ctx, nv e.tag, nv e.size, nv e.parts, nv q]⟩)] .ptr rfl rfl kr fun h69 c69 t69 n69 => ?_
    have T69 := T0.ext t69
    have N69 := T69.nx
    refine L_nil (W_sg 3 kr (L_ld _ rfl rfl kr (c69.ld (o := 0) kr rfl) (L_g 2 kr (L_ld _ rfl rfl kr (c69.ld (o := 2) kr rfl) (L_g 2 kr (L_ld _ rfl rfl kr (c69.ld (o := 3) kr rfl) (L_g 3 kr ?_)))))))
    obtain ⟨dv9, hd9, c9⟩ := (R.ext T69).rqL hp hr
    replace c9 : Cl h69 (Gh.B G (.rq p no)) [nk (W.rq p no).no, nv (W.rq p no).peer, nv (W.rq p no).ctx, nv (W.rq p no).tag, nv (W.rq p no).room, .bool (W.rq p no).send, .bool (W.rq p no).sync, .bool (W.rq p no).pers, .bool (W.rq p no).act, .bool (W.rq p no).done, nk (W.rq p no).parts, nk (W.rq p no).size, dv9, G.S (.pcs p no), nk (W.rq p no).gone, G.S (.snt p no), .bool (W.rq p no).clr, nv (W.rq p no).st.src, nv (W.rq p no).st.tag, nv (W.rq p no).st.size, nv (W.rq p no).st.err] := c9
    obtain ⟨h70, e70, d70, t70, n70⟩ := c9.storeAt (P := Try.prog) (T := 43) (o := 17) (v := .agg ⟨[nv e.src, nv e.tag, nv e.size, nv 0]⟩) (vs := [nv e.src, nv e.tag, nv e.size, nv 0]) kr rfl (by simp) (List.all_eq_true.1 rfl)
    have N70 : Nxt (W.setRq p no { (W.rq p no) with st := ⟨e.src, e.tag, e.size, 0⟩ }) G h69 h70 := (R.ext T69).stRq hp hr (r := { (W.rq p no) with st := ⟨e.src, e.tag, e.size, 0⟩ }) hd9 d70 t70 rfl rfl rfl
    clear hd9
    refine L_st _ rfl rfl rfl kr kr (e70) ?_
    obtain ⟨S70, C70, ro70, R70, Y70⟩ := N70
    have X70 := ((Gx.refl).trans (Gx.of T69)).trans Y70
    have hr_70 := (Y70.keep _ hr).1
    have m69_70 : ¬ (Gh.mut ⟨Gh.B G, S70, C70, ro70⟩) (h.next) ∧ ¬ (Gh.ro ⟨Gh.B G, S70, C70, ro70⟩) (h.next) := ⟨fun hm => (Y70.mu _ hm).elim m69.1 (fun e => by have := c69.lt; omega), fun hm => (Y70.ron _ hm).elim m69.2 (fun e => by have := c69.lt; omega)⟩
    replace c69 := c69.sm Y70.sm m69.1
    have T70 : Sm (Ow h (⟨Gh.B G, S70, C70, ro70⟩ : Gh)) h70 h70 := .refl
    refine L_nil (W_sg 1 kr (L_ld _ rfl rfl kr (c69.ld (o := 5) kr rfl) (L_nil (W_block (W_sg 3 kr (L_nil ?_))))))
    refine W_cond false kr (fun e => by cases e) (fun _ => ?_)
    refine W_sg 3 kr (L_nil ?_)
    refine W_cond true kr (fun _ => ?_) (fun e => by cases e)
    refine W_seq (W_region ?_)
    have m71 : ¬ (Gh.mut (⟨Gh.B G, S70, C70, ro70⟩ : Gh)) h70.next ∧ ¬ (Gh.ro (⟨Gh.B G, S70, C70, ro70⟩ : Gh)) h70.next := ⟨(R70.ow T70).op.new (Nat.le_refl _), (R70.ow T70).op.newr (Nat.le_refl _)⟩
    refine L_nw (Al.cells [nv 0, nv 0, nv 0, nv 0, nv 0, nv 0]) .ptr rfl rfl kr ?_
    have l71_t7 := c69.lt
    have c71 : Cl (h70.push (Al.cells [nv 0, nv 0, nv 0, nv 0, nv 0, nv 0]).obj) h70.next [nv 0, nv 0, nv 0, nv 0, nv 0, nv 0] := Cl.new h70 _
    have t71 : Sm Nix h70 (h70.push (Al.cells [nv 0, nv 0, nv 0, nv 0, nv 0, nv 0]).obj) := .push h70 _
    have n71 : (h70.push (Al.cells [nv 0, nv 0, nv 0, nv 0, nv 0, nv 0]).obj).next = h70.next + 1 := rfl
    generalize h70.push (Al.cells [nv 0, nv 0, nv 0, nv 0, nv 0, nv 0]).obj = h71 at c71 t71 n71 ⊢
    replace c69 := c69.ext t71
    have T71 : Sm (Ow h (⟨Gh.B G, S70, C70, ro70⟩ : Gh)) h70 h71 := T70.ext t71
    have N71 := T71.nx
    obtain ⟨h72, e72, d72, t72, n72⟩ := c71.sA 142 [nv e.src, nv e.ctx, nv e.tag, nv e.size, nv e.parts, nv q]
    replace c69 := c69.sn t72
    replace c71 := d72
    have T72 : Sm (Ow h (⟨Gh.B G, S70, C70, ro70⟩ : Gh)) h70 h72 := T71.trans t72 (fun x hx => by have hx : x = h70.next := hx; subst hx; first | exact .inr (by omega) | exact .inl ⟨by omega, m71.1, m71.2⟩ | exact .inl rfl)
    have N72 := T72.nx
    refine L_st _ rfl rfl rfl kr kr (e72) (L_nil (W_seq (W_drawn kr (D_e (e := 17) (l := [0,1,2,3,4,5,6,7,8,9,10,11,12,13,14,15,16]) (s' := []) kr kr rfl kr Rk_nil (NS_b 3 kr (NS_ld _ rfl rfl kr kr kr ((R70.ow T72).wdL.ld (o := 1) kr rfl) (NS_b 1 kr ?_)))))))
    obtain ⟨b1, o1, i1, l1⟩ := (R70.ow T72).prsAt (P := Try.prog) (T := 74) (el := 77) kr kr kr hp
    refine NS_ix _ rfl rfl kr kr kr kr (i1) (NS_ld _ rfl rfl kr kr kr (l1) (NS_b 2 kr (NS_ld _ rfl rfl kr kr kr (((R70.ow T72).prL hp).ld (o := 2) kr rfl) (NS_b 2 kr (NS_ld _ rfl rfl kr kr kr (c69.ld (o := 0) kr rfl) (NS_b 1 kr (NS_ld _ rfl rfl kr kr kr (c71.ld (o := 5) kr rfl) (NS_b 2 kr (NS_nil ?_)))))))))
    have hE := (R70.ow T72).exs hp
    obtain ⟨h73, e73, mp73, t73, n73⟩ := hE.1.update (P := Try.prog) (T := 79) (el := 103) kr k_ori (e.src, q) (v := ptr (Gh.B (⟨Gh.B G, S70, C70, ro70⟩ : Gh) (.rq p no))) (y := ptr (Gh.B (⟨Gh.B G, S70, C70, ro70⟩ : Gh) (.rq p no))) rfl
    have e9 := kset_map (fun k => ptr (Gh.B (⟨Gh.B G, S70, C70, ro70⟩ : Gh) (.rq p k))) ((W.setRq p no { W.rq p no with st := ⟨e.src, e.tag, e.size, 0⟩ }).pr p).exps (e.src, q) no
    dsimp only at e9
    have mp973 : Mp h73 (Gh.B (⟨Gh.B G, S70, C70, ro70⟩ : Gh) (.exs p)) k2 Eq ((kset ((W.setRq p no { W.rq p no with st := ⟨e.src, e.tag, e.size, 0⟩ }).pr p).exps (e.src, q) no).map fun e => (e.1, ptr (Gh.B (⟨Gh.B G, S70, C70, ro70⟩ : Gh) (.rq p e.2)))) := e9 ▸ mp73
    have N73 : Nxt ((W.setRq p no { W.rq p no with st := ⟨e.src, e.tag, e.size, 0⟩ }).setPr p { (W.setRq p no { W.rq p no with st := ⟨e.src, e.tag, e.size, 0⟩ }).pr p with exps := kset ((W.setRq p no { W.rq p no with st := ⟨e.src, e.tag, e.size, 0⟩ }).pr p).exps (e.src, q) no }) (⟨Gh.B G, S70, C70, ro70⟩ : Gh) h72 h73 := (R70.ow T72).setExs hp (fun x hx => (kset_mem hx).elim (fun y => ((R70.ow T72).rel.pr p hp).exp x y) (fun y => by rw [y]; exact hr_70)) (mp973) (hE.2.update e73) t73
    refine L_mu _ rfl rfl rfl kr kr kr e73 ?_
    obtain ⟨S73, C73, ro73, R73, Y73⟩ := N73
    have X73 := ((X70).ow T72).trans Y73
    have hr_73 := (Y73.keep _ hr_70).1
    have m69_70_73 : ¬ (Gh.mut ⟨Gh.B (⟨Gh.B G, S70, C70, ro70⟩ : Gh), S73, C73, ro73⟩) (h.next) ∧ ¬ (Gh.ro ⟨Gh.B (⟨Gh.B G, S70, C70, ro70⟩ : Gh), S73, C73, ro73⟩) (h.next) := ⟨fun hm => (Y73.mu _ hm).elim m69_70.1 (fun e => by have := c69.lt; omega), fun hm => (Y73.ron _ hm).elim m69_70.2 (fun e => by have := c69.lt; omega)⟩
    replace c69 := c69.sm Y73.sm m69_70.1
    have m71_73 : ¬ (Gh.mut ⟨Gh.B (⟨Gh.B G, S70, C70, ro70⟩ : Gh), S73, C73, ro73⟩) (h70.next) ∧ ¬ (Gh.ro ⟨Gh.B (⟨Gh.B G, S70, C70, ro70⟩ : Gh), S73, C73, ro73⟩) (h70.next) := ⟨fun hm => (Y73.mu _ hm).elim m71.1 (fun e => by have := c71.lt; omega), fun hm => (Y73.ron _ hm).elim m71.2 (fun e => by have := c71.lt; omega)⟩
    replace c71 := c71.sm Y73.sm m71.1
    have T73 : Sm (Ow h (⟨Gh.B (⟨Gh.B G, S70, C70, ro70⟩ : Gh), S73, C73, ro73⟩ : Gh)) h73 h73 := .refl
    refine L_nil ⟨rfl, ?_⟩
    refine D_l (l := []) kr kr Rk_nil (NS_nil (W_rg 4 kr (L_ld _ rfl rfl kr (c69.ld (o := 0) kr rfl) (L_g 1 kr (L_ld _ rfl rfl kr (c71.ld (o := 5) kr rfl) (L_g 2 kr (L_c rfl rfl kr (put_ok (R73.ow T73) (x := .clear q) rfl hlw) ?_)))))))
    rintro v74 h74 N74
    dsimp only at N74
    obtain ⟨S74, C74, ro74, R74, Y74⟩ := N74
    have X74 := ((X73).ow T73).trans Y74
    have hr_74 := (Y74.keep _ hr_73).1
    have m69_70_73_74 : ¬ (Gh.mut ⟨Gh.B (⟨Gh.B (⟨Gh.B G, S70, C70, ro70⟩ : Gh), S73, C73, ro73⟩ : Gh), S74, C74, ro74⟩) (h.next) ∧ ¬ (Gh.ro ⟨Gh.B (⟨Gh.B (⟨Gh.B G, S70, C70, ro70⟩ : Gh), S73, C73, ro73⟩ : Gh), S74, C74, ro74⟩) (h.next) := ⟨fun hm => (Y74.mu _ hm).elim m69_70_73.1 (fun e => by have := c69.lt; omega), fun hm => (Y74.ron _ hm).elim m69_70_73.2 (fun e => by have := c69.lt; omega)⟩
    have m71_73_74 : ¬ (Gh.mut ⟨Gh.B (⟨Gh.B (⟨Gh.B G, S70, C70, ro70⟩ : Gh), S73, C73, ro73⟩ : Gh), S74, C74, ro74⟩) (h70.next) ∧ ¬ (Gh.ro ⟨Gh.B (⟨Gh.B (⟨Gh.B G, S70, C70, ro70⟩ : Gh), S73, C73, ro73⟩ : Gh), S74, C74, ro74⟩) (h70.next) := ⟨fun hm => (Y74.mu _ hm).elim m71_73.1 (fun e => by have := c71.lt; omega), fun hm => (Y74.ron _ hm).elim m71_73.2 (fun e => by have := c71.lt; omega)⟩
    have T74 : Sm (Ow h (⟨Gh.B (⟨Gh.B (⟨Gh.B G, S70, C70, ro70⟩ : Gh), S73, C73, ro73⟩ : Gh), S74, C74, ro74⟩ : Gh)) h74 h74 := .refl
    refine L_nil ?_
    repeat with_reducible refine blk_norm ?_
    refine done_of (v := .tuple ⟨[]⟩) (.inr rfl) kr ?_
    exact ⟨_, _, _, (R74.ow T74), ((X74).ow T74)⟩
  · cases he
end
end Go.Proofs.Ytmehemeoaplepaa
