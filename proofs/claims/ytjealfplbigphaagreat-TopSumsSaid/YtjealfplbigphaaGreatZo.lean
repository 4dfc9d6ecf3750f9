/- Worlds of the program and walks of its functions. -/
import Derived.Test.YtjealfplbigphaaGreatZn
import Derived.Test.YtjealfplbigphaaGreatZl
namespace Go.Proofs.YtjealfplbigphaaGreat
noncomputable section
open Go Go.X Go.Arm Go.Mt
theorem req_ok {W : Wd} {G : Gh} {h : AH} {p no : Nat} (R : Rep W G h) (hp : p < W.n) (hm : no ∈ (W.pr p).reqs) :
  Arm.Calls Tryz.prog 57 [ptr (G.B .wd), nv (p : Int), nv (no : Int)] h (fun r => r.1 = .tuple ⟨[ptr (G.B (.rq p no)), nv 0]⟩ /\ Sm Nix h r.2) := by
 refine j9 29 Tryz.f57 ?_
 have T0 : Sm Nix h h := .refl
 refine z1 2 kr (q5 (z1 2 kr (L_c rfl rfl kr (zk2 (R.ext T0) hp) ?_)))
 rintro v152 h152 ⟨e152, t152⟩
 try dsimp only at e152 t152
 subst e152
 have T152 := T0.ext t152
 have N152 := T152.nx
 have M152 := t152.nx
 refine L_g 5 kr (q5 (q7 (z1 2 kr (q5 (Q2 kr (z6 (q7 (q6 (L_g 3 kr ?_)))))))))
 refine z9 _ rfl rfl kr (((R.ext T152).prL hp).ld (o := 1) kr rfl) (L_g 1 kr (L_lk _ rfl rfl kr kr (yz3 (R.ext T152) hp hm) (L_g 1 kr (q5 (q7 (z1 2 kr (q5 (Q2 kr (z6 ?_)))))))))
 refine z1 3 kr (q5 (j7 ?_))
 refine rr ?_
 refine z0 (v := .tuple ⟨[ptr (G.B (.rq p no)), nv 0]⟩) (.inl rfl) kr ?_
 exact ⟨rfl, T152⟩
theorem uv1 {W : Wd} {G : Gh} {h : AH} {p no : Nat} (R : Rep W G h) (hp : p < W.n) (hm : no ∈ (W.pr p).reqs) (h2 : (W.rq p no).act = true) :
  Arm.Calls Tryz.prog 35 [ptr (G.B .wd), nv (p : Int), nv (no : Int)] h (fun r => r.1 = .tuple ⟨[ptr (G.B (.rq p no)), nv 0]⟩ /\ Sm Nix h r.2) := by
 have hr := (R.rel.pr p hp).rqp no hm
 obtain ⟨dv0, hd0, c0⟩ := R.rqL hp hr
 replace c0 : Arm.Cl h (G.B (.rq p no)) (rqX (W.rq p no) dv0 (G.S (.pcs p no)) (G.S (.snt p no))) := c0
 refine j9 28 Tryz.f35 ?_
 have T0 : Sm Nix h h := .refl
 refine z1 2 kr (q5 (z1 3 kr (L_c rfl rfl kr (req_ok (R.ext T0) hp hm) ?_)))
 rintro v154 h154 ⟨e154, t154⟩
 try dsimp only at e154 t154
 subst e154
 have T154 := T0.ext t154
 have N154 := T154.nx
 have M154 := t154.nx
 refine L_g 5 kr (q5 (q7 (u3 (z1 3 kr (q5 (Q2 kr (q7 (q6 (L_g 3 kr ?_)))))))))
 refine z9 _ rfl rfl kr (((c0.ext T154).ld (o := 8) kr (by rw [<- h2]; rfl) : aLoad Tryz.prog 4 ⟨G.B (.rq p no), 8, none⟩ h154 = some (.bool true))) (L_g 2 kr (q5 (Q2 kr (z6 (z1 3 kr (q5 (j7 ?_)))))))
 refine rr ?_
 refine z0 (v := .tuple ⟨[ptr (G.B (.rq p no)), nv 0]⟩) (.inl rfl) kr ?_
 exact ⟨rfl, T154⟩
theorem xw7 {W : Wd} {G : Gh} {h : AH} {p q : Nat} (R : Rep W G h) (hp : p < W.n) (hq : q < W.n) :
  Arm.Calls Tryz.prog 53 [ptr (G.B .wd), nv (p : Int), nv (q : Int)] h (fun r => r.1 = nv 0 /\ Sm Nix h r.2) := by
 refine j9 27 Tryz.f53 ?_
 have T0 : Sm Nix h h := .refl
 refine z1 1 kr (q5 (q7 (z1 2 kr (L_c rfl rfl kr (zk2 (R.ext T0) hp) ?_))))
 rintro v157 h157 ⟨e157, t157⟩
 try dsimp only at e157 t157
 subst e157
 have T157 := T0.ext t157
 have N157 := T157.nx
 have M157 := t157.nx
 refine L_g 5 kr (q5 (z1 2 kr (q5 (Q2 kr (z6 (z1 2 kr (L_c rfl rfl kr (zk2 (R.ext T157) hq) ?_)))))))
 rintro v158 h158 ⟨e158, t158⟩
 try dsimp only at e158 t158
 subst e158
 have T158 := T157.ext t158
 have N158 := T158.nx
 have M158 := t158.nx
 refine L_g 5 kr (q5 (z1 2 kr (q5 (j7 ?_))))
 refine rr ?_
 refine z0 (v := nv 0) (.inl rfl) kr ?_
 exact ⟨rfl, T158⟩
theorem Qz2 {W : Wd} {G : Gh} {h : AH} {p : Nat} {W' : Wd} (R : Rep W G h) (hp : p < W.n) (he : W.call p = some W') :
  Arm.Calls Tryz.prog 33 [ptr (G.B .wd), nv (p : Int)] h (fun r => r.1 = .tuple ⟨[nv ((W.pr p).inb.length : Int), nv 0]⟩ /\ Nxt W' G h r.2) := by
 refine j9 20 Tryz.f33 ?_
 have T0 : Sm Nix h h := .refl
 refine z1 2 kr (q5 (q7 (z1 2 kr (L_c rfl rfl kr (zk2 (R.ext T0) hp) ?_))))
 rintro v159 h159 ⟨e159, t159⟩
 try dsimp only at e159 t159
 subst e159
 have T159 := T0.ext t159
 have N159 := T159.nx
 have M159 := t159.nx
 refine L_g 5 kr (q5 (z1 2 kr (q5 (Q2 kr (z6 (z1 2 kr (L_c rfl rfl kr (yy5 (R.ext T159) hp he) ?_)))))))
 rintro v160 h160 ⟨e160, N160⟩
 dsimp only at e160 N160
 subst e160
 obtain ⟨S160, C160, ro160, R160, Y160⟩ := N160
 have X160 := ((Gx.refl).trans (Gx.of T159)).trans Y160
 have T160 : Sm (Ow h (⟨Gh.B G, S160, C160, ro160⟩ : Gh)) h160 h160 := .refl
 refine L_g 2 kr (q5 (j7 ?_))
 refine rr ?_
 refine z0 (v := .tuple ⟨[nv ((W.pr p).inb.length : Int), nv 0]⟩) (.inl rfl) kr ?_
 exact ⟨rfl, _, _, _, (R160.ow T160), ((X160).ow T160)⟩
end
end Go.Proofs.YtjealfplbigphaaGreat
namespace Go.Proofs.YtjealfplbigphaaGreat
noncomputable section
open Go Go.X Go.Arm Go.Mt
theorem jx7 {f : Nat -> Value} {l : List Nat} {k : Nat} : kdel (l.map fun (x : Nat) => ((x : Int), f x)) (k : Int) = (l.erase k).map fun (x : Nat) => ((x : Int), f x) := by
 induction l with
 | nil => rfl
 | cons x l ih =>
  rw [List.map_cons]
  unfold kdel
  rw [List.erase_cons]
  by_cases e : x = k
  . subst e; rw [if_pos rfl]; simp
  . rw [if_neg (show ¬ ((x : Int) = (k : Int)) by omega), if_neg (by simpa using e), List.map_cons, ih]
theorem Qz6 {W : Wd} {G : Gh} {h : AH} {p no : Nat} (R : Rep W G h) (hp : p < W.n) (hr : G.C (.rq p no) ≠ .no) :
   Arm.Calls Tryz.prog 37 [ptr (G.B .wd), nv (p : Int), ptr (G.B (.rq p no))] h (fun r => Nxt (W.over p no) G h r.2) := by
 by_cases h1 : (W.rq p no).pers = true
 . have e : W.over p no = W.setRq p no { W.rq p no with act := false } := if_pos h1
   rw [e]
   refine j9 28 Tryz.f37 ?_
   have T0 : Sm Nix h h := .refl
   refine q7 (q6 (L_g 3 kr ?_))
   obtain ⟨dv9, hd9, c9⟩ := (R.ext T0).rqL hp hr
   replace c9 : Cl h (Gh.B G (.rq p no)) (rqX (W.rq p no) dv9 (G.S (.pcs p no)) (G.S (.snt p no))) := c9
   obtain ⟨h161, e161, d161, t161, n161⟩ := c9.s1 4 8 (.bool false)
   have N161 : Nxt (W.setRq p no { (W.rq p no) with act := false }) G h h161 := (R.ext T0).stRq hp hr (r := { (W.rq p no) with act := false }) hd9 d161 t161 rfl rfl rfl
   clear hd9
   refine Q3 _ rfl rfl rfl kr kr (e161) ?_
   obtain ⟨S161, C161, ro161, R161, Y161⟩ := N161
   have X161 := ((Gx.refl).trans (Gx.of T0)).trans Y161
   have hr_161 := (Y161.keep _ hr).1
   have T161 : Sm (Ow h (⟨Gh.B G, S161, C161, ro161⟩ : Gh)) h161 h161 := .refl
   obtain ⟨dvz, hdz, cz⟩ := R161.rqL (p := p) hp hr_161
   rw [Wd.setRq_at] at hdz cz
   replace cz : Arm.Cl h161 (G.B (.rq p no)) [nk (W.rq p no).no, nv (W.rq p no).peer, nv (W.rq p no).ctx, nv (W.rq p no).tag, nv (W.rq p no).room, .bool (W.rq p no).send, .bool (W.rq p no).sync, .bool (W.rq p no).pers, .bool false, .bool (W.rq p no).done, nk (W.rq p no).parts, nk (W.rq p no).size, dvz, (⟨G.B, S161, C161, ro161⟩ : Gh).S (.pcs p no), nk (W.rq p no).gone, (⟨G.B, S161, C161, ro161⟩ : Gh).S (.snt p no), .bool (W.rq p no).clr, nv (W.rq p no).st.src, nv (W.rq p no).st.tag, nv (W.rq p no).st.size, nv (W.rq p no).st.err] := cz
   refine q5 (z1 3 kr (z9 _ rfl rfl kr (((cz.sm T161 (fun hx => hx.2.1 ⟨.rq p no, hr_161, rfl⟩)).ld (o := 7) kr (by rw [<- h1]; rfl) : aLoad Tryz.prog 4 ⟨G.B (.rq p no), 7, none⟩ h161 = some (.bool true))) (L_g 1 kr (q5 (Q2 kr (z6 ?_))))))
   repeat with_reducible refine Q9 ?_
   refine z0 (v := .tuple ⟨[]⟩) (.inr rfl) kr ?_
   exact ⟨_, _, _, (R161.ow T161), ((X161).ow T161)⟩
 . have e : W.over p no = (W.setRq p no { W.rq p no with act := false }).setPr p { W.pr p with reqs := (W.pr p).reqs.erase (W.rq p no).no } := if_neg h1
   rw [e]
   have h1 : (W.rq p no).pers = false := by simpa using h1
   refine j9 28 Tryz.f37 ?_
   have T0 : Sm Nix h h := .refl
   refine q7 (q6 (L_g 3 kr ?_))
   obtain ⟨dv9, hd9, c9⟩ := (R.ext T0).rqL hp hr
   replace c9 : Cl h (Gh.B G (.rq p no)) (rqX (W.rq p no) dv9 (G.S (.pcs p no)) (G.S (.snt p no))) := c9
   obtain ⟨h162, e162, d162, t162, n162⟩ := c9.s1 4 8 (.bool false)
   have N162 : Nxt (W.setRq p no { (W.rq p no) with act := false }) G h h162 := (R.ext T0).stRq hp hr (r := { (W.rq p no) with act := false }) hd9 d162 t162 rfl rfl rfl
   clear hd9
   refine Q3 _ rfl rfl rfl kr kr (e162) ?_
   obtain ⟨S162, C162, ro162, R162, Y162⟩ := N162
   have X162 := ((Gx.refl).trans (Gx.of T0)).trans Y162
   have hr_162 := (Y162.keep _ hr).1
   have T162 : Sm (Ow h (⟨Gh.B G, S162, C162, ro162⟩ : Gh)) h162 h162 := .refl
   obtain ⟨dvz, hdz, cz⟩ := R162.rqL (p := p) hp hr_162
   rw [Wd.setRq_at] at hdz cz
   replace cz : Arm.Cl h162 (G.B (.rq p no)) [nk (W.rq p no).no, nv (W.rq p no).peer, nv (W.rq p no).ctx, nv (W.rq p no).tag, nv (W.rq p no).room, .bool (W.rq p no).send, .bool (W.rq p no).sync, .bool (W.rq p no).pers, .bool false, .bool (W.rq p no).done, nk (W.rq p no).parts, nk (W.rq p no).size, dvz, (⟨G.B, S162, C162, ro162⟩ : Gh).S (.pcs p no), nk (W.rq p no).gone, (⟨G.B, S162, C162, ro162⟩ : Gh).S (.snt p no), .bool (W.rq p no).clr, nv (W.rq p no).st.src, nv (W.rq p no).st.tag, nv (W.rq p no).st.size, nv (W.rq p no).st.err] := cz
   refine q5 (z1 3 kr (z9 _ rfl rfl kr (((cz.sm T162 (fun hx => hx.2.1 ⟨.rq p no, hr_162, rfl⟩)).ld (o := 7) kr (by rw [<- h1]; rfl) : aLoad Tryz.prog 4 ⟨G.B (.rq p no), 7, none⟩ h162 = some (.bool false))) (L_g 1 kr (q5 (U7 kr (u4 kr (D_e (e := 14) (l := [0,1,2,3,4,5,6,7,8,9,10,11,12,13]) (s' := []) kr kr rfl kr z4 (z2 3 kr (q9 _ rfl rfl kr kr kr ((R162.ow T162).wdL.ld (o := 1) kr rfl) ?_)))))))))
   refine z2 1 kr ?_
   obtain ⟨b1, o1, i1, l1⟩ := (R162.ow T162).prsAt (P := Tryz.prog) (T := 61) (el := 64) kr kr kr hp
   refine U0 _ rfl rfl kr kr kr kr (i1) (q9 _ rfl rfl kr kr kr (l1) (z2 2 kr (q9 _ rfl rfl kr kr kr (((R162.ow T162).prL hp).ld (o := 1) kr rfl) (z2 3 kr (q9 _ rfl rfl kr kr kr ((cz.sm T162 (fun hx => hx.2.1 ⟨.rq p no, hr_162, rfl⟩)).ld (o := 0) kr rfl) (z5 ?_))))))
   have hE := (R162.ow T162).rqs (p := p) hp
   obtain ⟨h163, e163, mp163, t163, n163⟩ := hE.1.delete (P := Tryz.prog) (T := 65) (el := 100) kr kNum ((W.rq p no).no : Int)
   have e9 := jx7 (f := fun k => ptr (Gh.B (⟨Gh.B G, S162, C162, ro162⟩ : Gh) (.rq p k))) (l := (W.pr p).reqs) (k := (W.rq p no).no)
   have mp9163 : Mp h163 (Gh.B (⟨Gh.B G, S162, C162, ro162⟩ : Gh) (.rqs p)) nv Eq (((W.pr p).reqs.erase (W.rq p no).no).map fun (k : Nat) => ((k : Int), ptr (Gh.B (⟨Gh.B G, S162, C162, ro162⟩ : Gh) (.rq p k)))) := e9 ▸ mp163
   have N163 : Nxt ((W.setRq p no { W.rq p no with act := false }).setPr p { W.pr p with reqs := (W.pr p).reqs.erase (W.rq p no).no }) (⟨Gh.B G, S162, C162, ro162⟩ : Gh) h162 h163 := (R162.ow T162).setRqs (p := p) hp (fun k hk => ((R162.ow T162).rel.pr p hp).rqp k (List.mem_of_mem_erase hk)) mp9163 (hE.2.delete e163) t163
   refine V9 _ _ rfl rfl kr kr (zz5 e163) ?_
   obtain ⟨S163, C163, ro163, R163, Y163⟩ := N163
   have X163 := ((X162).ow T162).trans Y163
   have hr_163 := (Y163.keep _ hr_162).1
   have T163 : Sm (Ow h (⟨Gh.B (⟨Gh.B G, S162, C162, ro162⟩ : Gh), S163, C163, ro163⟩ : Gh)) h163 h163 := .refl
   refine q5 ⟨rfl, ?_⟩
   refine D_l (l := []) kr kr z4 (z5 ?_)
   repeat with_reducible refine Q9 ?_
   refine z0 (v := .tuple ⟨[]⟩) (.inr rfl) kr ?_
   exact ⟨_, _, _, (R163.ow T163), ((X163).ow T163)⟩
end
end Go.Proofs.YtjealfplbigphaaGreat
namespace Go.Proofs.YtjealfplbigphaaGreat
noncomputable section
open Go Go.X Go.Arm Go.Mt
theorem uu4 {W : Wd} {G : Gh} {h : AH} {p : Nat} {q : Nat} {ctx : Int} {tag : Int} {wild : Bool} (R : Rep W G h) (hp : p < W.n) (hq : q < W.n) (hc0 : 0 ≤ ctx) (hc1 : ctx ≤ 1048576) (ht0 : 0 ≤ tag) (ht1 : tag ≤ 1048576) :
  Arm.Calls Tryz.prog 29 [ptr (G.B .wd), nv (p : Int), nv (q : Int), nv ctx, nv tag, .bool wild] h (fun r => r.1 = nv 0 /\ Sm Nix h r.2) := by
 refine j9 69 Tryz.f29 ?_
 have T0 : Sm Nix h h := .refl
 refine z1 1 kr (q5 (q7 (z1 2 kr (L_c rfl rfl kr (zk2 (R.ext T0) hp) ?_))))
 rintro v180 h180 ⟨e180, t180⟩
 try dsimp only at e180 t180
 subst e180
 have T180 := T0.ext t180
 have N180 := T180.nx
 have M180 := t180.nx
 refine L_g 5 kr (q5 (z1 2 kr (q5 (Q2 kr (z6 (q7 (q7 (q6 (L_g 2 kr ?_)))))))))
 refine L_c rfl rfl kr (zk2 (R.ext T180) hq) ?_
 rintro v181 h181 ⟨e181, t181⟩
 try dsimp only at e181 t181
 subst e181
 have T181 := T180.ext t181
 have N181 := T181.nx
 have M181 := t181.nx
 refine L_g 5 kr (q5 (z1 14 kr (q5 (Q2 kr (z6 (q7 (u3 (q7 (q6 ?_)))))))))
 refine L_g 1 kr (L_i (ctx) (0) (.bool false) rfl rfl kr kr rfl (by first | (simp; done) | (simp; omega)) (L_g 2 kr (u9 kr (L_i (ctx) (1048576) (.bool false) rfl rfl kr kr rfl (by first | (simp; done) | (simp; omega)) (L_g 2 kr (q5 (Q2 kr (z1 1 kr (L_i (tag) (0) (.bool false) rfl rfl kr kr rfl (by first | (simp; done) | (simp; omega)) ?_)))))))))
 refine L_g 2 kr (u9 kr (L_i (tag) (1048576) (.bool false) rfl rfl kr kr rfl (by first | (simp; done) | (simp; omega)) (L_g 10 kr (q5 (Q2 kr (z6 (z1 1 kr (q5 (j7 ?_)))))))))
 refine rr ?_
 refine z0 (v := nv 0) (.inl rfl) kr ?_
 exact ⟨rfl, T181⟩
theorem uu5 {W : Wd} {G : Gh} {h : AH} {p : Nat} {ctx : Int} {tag : Int} (R : Rep W G h) (hp : p < W.n) (hc0 : 0 ≤ ctx) (hc1 : ctx ≤ 1048576) (ht0 : 0 ≤ tag) (ht1 : tag ≤ 1048576) :
  Arm.Calls Tryz.prog 29 [ptr (G.B .wd), nv (p : Int), nv (-1), nv ctx, nv tag, .bool true] h (fun r => r.1 = nv 0 /\ Sm Nix h r.2) := by
 refine j9 69 Tryz.f29 ?_
 have T0 : Sm Nix h h := .refl
 refine z1 1 kr (q5 (q7 (z1 2 kr (L_c rfl rfl kr (zk2 (R.ext T0) hp) ?_))))
 rintro v184 h184 ⟨e184, t184⟩
 try dsimp only at e184 t184
 subst e184
 have T184 := T0.ext t184
 have N184 := T184.nx
 have M184 := t184.nx
 refine L_g 5 kr (q5 (z1 2 kr (q5 (Q2 kr (z6 (q7 (q7 (q6 (L_g 2 kr ?_)))))))))
 refine L_c rfl rfl kr (at_no (R.ext T184) (x := -1) (.inl (by decide))) ?_
 rintro v185 h185 ⟨e185, t185⟩
 try dsimp only at e185 t185
 subst e185
 have T185 := T184.ext t185
 have N185 := T185.nx
 have M185 := t185.nx
 refine L_g 5 kr (q5 (z1 14 kr (q5 (Q2 kr (z6 (q7 (u3 (q7 (q6 ?_)))))))))
 refine L_g 1 kr (L_i (ctx) (0) (.bool false) rfl rfl kr kr rfl (by first | (simp; done) | (simp; omega)) (L_g 2 kr (u9 kr (L_i (ctx) (1048576) (.bool false) rfl rfl kr kr rfl (by first | (simp; done) | (simp; omega)) (L_g 2 kr (q5 (Q2 kr (z1 1 kr (L_i (tag) (0) (.bool false) rfl rfl kr kr rfl (by first | (simp; done) | (simp; omega)) ?_)))))))))
 refine L_g 2 kr (u9 kr (L_i (tag) (1048576) (.bool false) rfl rfl kr kr rfl (by first | (simp; done) | (simp; omega)) (L_g 10 kr (q5 (Q2 kr (z6 (z1 1 kr (q5 (j7 ?_)))))))))
 refine rr ?_
 refine z0 (v := nv 0) (.inl rfl) kr ?_
 exact ⟨rfl, T185⟩
theorem yg2 {W : Wd} {G : Gh} {h : AH} {p : Nat} {r0 : Rq} {d : By} {s : Value} {W1 W2 W3 : Wd} (R : Rep W G h) (hp : p < W.n) (hfull : (W.pr p).reqs.length < 256) (hrd : r0.data = []) (hrp : r0.pcs = []) (hrs : r0.sent = []) (H : Rb h s (d.map bv)) (hs : ∀ b, vb s = some b -> ¬ G.mut b) (he1 : W.call p = some W1) (he2 : W1.add p r0 = some W2) (he3 : W2.start p (W1.pr p).next d = some W3) :
  Arm.Calls Tryz.prog 30 [ptr (G.B .wd), nv (p : Int), .agg ⟨(rqX r0 (.slice none 0 0) (.slice none 0 0) (.slice none 0 0))⟩, s] h (fun r => r.1 = .tuple ⟨[nk (W3.rq p (W1.pr p).next).no, nv 0]⟩ /\ (∃ b S C ro, Rep W3 ⟨ups G.B (.rq p (W1.pr p).next) b, S, C, ro⟩ r.2 /\ Gx G h ⟨ups G.B (.rq p (W1.pr p).next) b, S, C, ro⟩ r.2)) := by
 have hp1 : p < W1.n := by rw [Wd.call_n he1]; exact hp
 have hp2 : p < W2.n := by rw [Wd.add_n he2]; exact hp1
 have hp3 : p < W3.n := by rw [Wd.start_n he3]; exact hp2
 refine j9 34 Tryz.f30 ?_
 have T0 : Sm Nix h h := .refl
 refine q7 (q6 ?_)
 have m164 : ¬ (Gh.mut G) h.next /\ ¬ (Gh.ro G) h.next := ⟨(R.ext T0).op.new (Nat.le_refl _), (R.ext T0).op.newr (Nat.le_refl _)⟩
 refine Q1 (rqX r0 (.slice none 0 0) (.slice none 0 0) (.slice none 0 0)) .ptr rfl rfl kr fun h164 c164 t164 n164 => ?_
 have T164 := T0.ext t164
 have N164 := T164.nx
 refine L_g 2 kr (q5 (q7 (z1 2 kr (L_c rfl rfl kr (Qx6 (R.ext T164) hp (b := false) (by simp; omega)) ?_))))
 rintro v165 h165 ⟨e165, t165⟩
 try dsimp only at e165 t165
 subst e165
 replace c164 := c164.ext t165
 have T165 := T164.ext t165
 have N165 := T165.nx
 have M165 := t165.nx
 refine L_g 1 kr (q5 (z1 2 kr (q5 (Q2 kr (z6 (z1 2 kr (L_c rfl rfl kr (yy5 (R.ext T165) hp he1) ?_)))))))
 rintro v166 h166 ⟨e166, N166⟩
 dsimp only at e166 N166
 subst e166
 obtain ⟨S166, C166, ro166, R166, Y166⟩ := N166
 have X166 := ((Gx.refl).trans (Gx.of T165)).trans Y166
 have m164_166 : ¬ (Gh.mut ⟨Gh.B G, S166, C166, ro166⟩) (h.next) /\ ¬ (Gh.ro ⟨Gh.B G, S166, C166, ro166⟩) (h.next) := ⟨fun hm => (Y166.mu _ hm).elim m164.1 (fun e => by have := c164.lt; omega), fun hm => (Y166.ron _ hm).elim m164.2 (fun e => by have := c164.lt; omega)⟩
 replace c164 := c164.sm Y166.sm m164.1
 have T166 : Sm (Ow h (⟨Gh.B G, S166, C166, ro166⟩ : Gh)) h166 h166 := .refl
 refine q5 (z1 2 kr (z9 _ rfl rfl kr (Cl.allN (n := 21) c164 rfl kr) (L_c rfl rfl kr (add_ok (R166.ow T166) hp1 (r := r0) hrd hrp hrs he2) ?_)))
 rintro v9 h167 ⟨b9, S9, C9, ro9, R9, Y9, hr9, e9⟩
 dsimp only at R9 Y9 hr9 e9
 subst e9
 have X9 := ((X166).ow T166).trans Y9
 have eB9 : ups (Gh.B (⟨Gh.B G, S166, C166, ro166⟩ : Gh)) (.rq p (W1.pr p).next) b9 (.rq p (W1.pr p).next) = b9 := j0 _ _ _
 replace c164 := c164
 have T167 : Sm (Ow h (⟨ups (Gh.B (⟨Gh.B G, S166, C166, ro166⟩ : Gh)) (.rq p (W1.pr p).next) b9, S9, C9, ro9⟩ : Gh)) h167 h167 := .refl
 refine L_g 1 kr (q5 (q7 (q6 (L_g 4 kr ?_))))
 have hst := jk4 (R9.ow T167) hp2 hr9 (H.sm (((X9).ow T167)).sm hs) he3
 rw [show Gh.B (⟨ups (Gh.B (⟨Gh.B G, S166, C166, ro166⟩ : Gh)) (.rq p (W1.pr p).next) b9, S9, C9, ro9⟩ : Gh) (.rq p (W1.pr p).next) = b9 from eB9] at hst
 refine L_c rfl rfl kr (hst) ?_
 rintro v168 h168 N168
 dsimp only at N168
 obtain ⟨S168, C168, ro168, R168, Y168⟩ := N168
 have X168 := ((X9).ow T167).trans Y168
 have T168 : Sm (Ow h (⟨Gh.B (⟨ups (Gh.B (⟨Gh.B G, S166, C166, ro166⟩ : Gh)) (.rq p (W1.pr p).next) b9, S9, C9, ro9⟩ : Gh), S168, C168, ro168⟩ : Gh)) h168 h168 := .refl
 have hrz := (Y168.keep _ hr9).1
 obtain ⟨dvz, hdz, cz⟩ := R168.rqL (p := p) hp3 hrz
 rw [show Gh.B (⟨ups (Gh.B G) (.rq p (W1.pr p).next) b9, S168, C168, ro168⟩ : Gh) (.rq p (W1.pr p).next) = b9 from eB9] at cz
 refine q5 (z1 3 kr (z9 _ rfl rfl kr ((cz.sm T168 (fun hx => hx.2.1 ⟨.rq p (W1.pr p).next, hrz, congrArg some eB9⟩)).ld (o := 0) kr rfl) (L_g 2 kr (q5 (j7 ?_)))))
 refine rr ?_
 refine z0 (v := .tuple ⟨[nk (W3.rq p (W1.pr p).next).no, nv 0]⟩) (.inl rfl) kr ?_
 exact ⟨rfl, b9, _, _, _, (R168.ow T168), ((X168).ow T168)⟩
end
end Go.Proofs.YtjealfplbigphaaGreat
namespace Go.Proofs.YtjealfplbigphaaGreat
noncomputable section
open Go Go.X Go.Arm Go.Mt
theorem jw7 {W : Wd} {G : Gh} {h : AH} {p q : Nat} {ctx tag : Int} {sync : Bool} {d : By} {s : Value} {W1 W2 W3 : Wd} (R : Rep W G h) (hp : p < W.n) (hq : q < W.n) (hc0 : 0 ≤ ctx) (hc1 : ctx ≤ 1048576) (ht0 : 0 ≤ tag) (ht1 : tag ≤ 1048576) (hfull : (W.pr p).reqs.length < 256) (hld : d.length ≤ 4096) (H : Rb h s (d.map bv)) (hs : ∀ b, vb s = some b -> ¬ G.mut b) (he1 : W.call p = some W1) (he2 : W1.add p { no := 0, peer := (q : Int), ctx := ctx, tag := tag, room := 0, send := true, sync := sync, pers := false, act := false, done := false, parts := 0, size := 0, data := [], pcs := [], gone := 0, sent := [], clr := false, st := St.z } = some W2) (he3 : W2.start p (W1.pr p).next d = some W3) :
  Arm.Calls Tryz.prog 11 [ptr (G.B .wd), nv (p : Int), nv (q : Int), nv ctx, nv tag, s, .bool sync] h (fun r => r.1 = .tuple ⟨[nk (W3.rq p (W1.pr p).next).no, nv 0]⟩ /\ (∃ b S C ro, Rep W3 ⟨ups G.B (.rq p (W1.pr p).next) b, S, C, ro⟩ r.2 /\ Gx G h ⟨ups G.B (.rq p (W1.pr p).next) b, S, C, ro⟩ r.2)) := by
 refine j9 40 Tryz.f11 ?_
 have T0 : Sm Nix h h := .refl
 refine z1 2 kr (q5 (q7 (z1 5 kr (L_c rfl rfl kr (uu4 (wild := false) (R.ext T0) hp hq hc0 hc1 ht0 ht1) ?_))))
 rintro v169 h169 ⟨e169, t169⟩
 try dsimp only at e169 t169
 subst e169
 have T169 := T0.ext t169
 have N169 := T169.nx
 have M169 := t169.nx
 refine L_g 1 kr (q5 (z1 2 kr (q5 (Q2 kr (z6 (q7 (q7 (q6 (L_g 1 kr ?_)))))))))
 refine V4 _ rfl rfl kr (H.lenA (T := 23) (el := 5) kr _) (L_i (((List.map bv d).length : Int)) (4096) (.bool false) rfl rfl kr kr rfl (by simp; omega) (q5 (Q2 kr (z6 (q7 (q6 (L_g 8 kr ?_)))))))
 have TB9 := T169
 refine L_c rfl rfl kr (yg2 (r0 := { no := 0, peer := (q : Int), ctx := ctx, tag := tag, room := 0, send := true, sync := sync, pers := false, act := false, done := false, parts := 0, size := 0, data := [], pcs := [], gone := 0, sent := [], clr := false, st := St.z }) (R.ext T169) hp hfull rfl rfl rfl (H.ext T169) hs he1 he2 he3) ?_
 rintro v170 h170 ⟨e170, b9, S9, C9, ro9, R9, Y9⟩
 dsimp only at e170 R9 Y9
 subst e170
 have T170 : Sm Nix h170 h170 := .refl
 refine L_g 4 kr (q5 (j7 ?_))
 refine rr ?_
 refine z0 (v := .tuple ⟨[nk (W3.rq p (W1.pr p).next).no, nv 0]⟩) (.inl rfl) kr ?_
 exact ⟨rfl, b9, S9, C9, ro9, R9.ext T170, ((Gx.of TB9).trans Y9).ext T170⟩
theorem Qq8 {W : Wd} {G : Gh} {h : AH} {p : Nat} {ctx tag : Int} {room : Int} {W1 W2 W3 : Wd} (R : Rep W G h) (hp : p < W.n) (hc0 : 0 ≤ ctx) (hc1 : ctx ≤ 1048576) (ht0 : 0 ≤ tag) (ht1 : tag ≤ 1048576) (hr0 : 0 ≤ room) (hr1 : room ≤ 4096) (hfull : (W.pr p).reqs.length < 256) (he1 : W.call p = some W1) (he2 : W1.add p { no := 0, peer := (-1), ctx := ctx, tag := tag, room := room, send := false, sync := false, pers := false, act := false, done := false, parts := 0, size := 0, data := [], pcs := [], gone := 0, sent := [], clr := false, st := St.z } = some W2) (he3 : W2.start p (W1.pr p).next [] = some W3) :
  Arm.Calls Tryz.prog 12 [ptr (G.B .wd), nv (p : Int), nv (-1), nv ctx, nv tag, nv room] h (fun r => r.1 = .tuple ⟨[nk (W3.rq p (W1.pr p).next).no, nv 0]⟩ /\ (∃ b S C ro, Rep W3 ⟨ups G.B (.rq p (W1.pr p).next) b, S, C, ro⟩ r.2 /\ Gx G h ⟨ups G.B (.rq p (W1.pr p).next) b, S, C, ro⟩ r.2)) := by
 refine j9 40 Tryz.f12 ?_
 have T0 : Sm Nix h h := .refl
 refine z1 2 kr (q5 (q7 (z1 5 kr (L_c rfl rfl kr (uu5 (R.ext T0) hp hc0 hc1 ht0 ht1) ?_))))
 rintro v177 h177 ⟨e177, t177⟩
 try dsimp only at e177 t177
 subst e177
 have T177 := T0.ext t177
 have N177 := T177.nx
 have M177 := t177.nx
 refine L_g 1 kr (q5 (z1 2 kr (q5 (Q2 kr (z6 (q7 (q7 (q6 (L_g 1 kr ?_)))))))))
 refine L_c rfl rfl kr (ug0 hr0 hr1) ?_
 rintro v178 h178 ⟨e178, t178⟩
 try dsimp only at e178 t178
 subst e178
 have T178 := T177.ext t178
 have N178 := T178.nx
 have M178 := t178.nx
 refine L_g 1 kr (q5 (z1 2 kr (q5 (Q2 kr (z6 (q7 (q6 (L_g 7 kr ?_))))))))
 have TB9 := T178
 refine L_c rfl rfl kr (yg2 (r0 := { no := 0, peer := (-1), ctx := ctx, tag := tag, room := room, send := false, sync := false, pers := false, act := false, done := false, parts := 0, size := 0, data := [], pcs := [], gone := 0, sent := [], clr := false, st := St.z }) (d := []) (R.ext T178) hp hfull rfl rfl rfl Rb.nil (fun b hb => by cases hb) he1 he2 he3) ?_
 rintro v179 h179 ⟨e179, b9, S9, C9, ro9, R9, Y9⟩
 dsimp only at e179 R9 Y9
 subst e179
 have T179 : Sm Nix h179 h179 := .refl
 refine L_g 4 kr (q5 (j7 ?_))
 refine rr ?_
 refine z0 (v := .tuple ⟨[nk (W3.rq p (W1.pr p).next).no, nv 0]⟩) (.inl rfl) kr ?_
 exact ⟨rfl, b9, S9, C9, ro9, R9.ext T179, ((Gx.of TB9).trans Y9).ext T179⟩
end
end Go.Proofs.YtjealfplbigphaaGreat
namespace Go.Proofs.YtjealfplbigphaaGreat
noncomputable section
open Go Go.X Go.Arm Go.Mt
theorem evR_c4 {P : Program} {n : Nat} {f : Fr} {h : AH} {k i j l : Nat} {T : TypeId} {a : Addr} {v u x y : Value} (hk : Nat.blt k n = true) (hi : Nat.blt i n = true) (hj : Nat.blt j n = true) (hl' : Nat.blt l n = true) (hf : f k = .pointer (some a)) (hl : aLoad P T a h = some v) (h1 : f i = u) (h2 : f j = x) (h3 : f l = y) : evR P n f h [.cell k T, .tmp i, .tmp j, .tmp l] = some (.tuple ⟨[v, u, x, y]⟩) := by
 have e1 : evR1 P n f h (.cell k T) = some v := by unfold evR1; simp only [hk, hf]; exact hl
 have e2 : evR1 P n f h (.tmp i) = some u := by unfold evR1; simp only [hi, h1]
 have e3 : evR1 P n f h (.tmp j) = some x := by unfold evR1; simp only [hj, h2]
 have e4 : evR1 P n f h (.tmp l) = some y := by unfold evR1; simp only [hl', h3]
 unfold evR evRL evRL evRL evRL evRL
 rw [e1, e2, e3, e4]
theorem jq1 {W : Wd} {G : Gh} {h : AH} {p no : Nat} {W1 : Wd} (R : Rep W G h) (hp : p < W.n) (hm : no ∈ (W.pr p).reqs) (hact : (W.rq p no).act = true) (he1 : W.call p = some W1) (hdone : (W1.rq p no).done = true) (hsd : (W1.rq p no).send = false) (hdl : (W1.rq p no).data.length < big) :
  Arm.Calls Tryz.prog 14 [ptr (G.B .wd), nv (p : Int), nv (no : Int)] h (fun r => ∃ v, r.1 = .tuple ⟨[.agg ⟨[nv (W1.rq p no).st.src, nv (W1.rq p no).st.tag, nv (W1.rq p no).st.size, nv (W1.rq p no).st.err]⟩, v, .bool true, nv 0]⟩ /\ Rb r.2 v ((W1.rq p no).data.map bv) /\ Cut r.2 v ((W1.rq p no).data.map bv).length /\ (∀ b, vb v = some b -> h.next ≤ b) /\ Nxt (W1.over p no) G h r.2) := by
 have hp1 : p < W1.n := by rw [Wd.call_n he1]; exact hp
 have hr := (R.rel.pr p hp).rqp no hm
 refine j9 53 Tryz.f14 ?_
 have T0 : Sm Nix h h := .refl
 refine q7 (q6 ?_)
 have m197 : ¬ (Gh.mut G) h.next /\ ¬ (Gh.ro G) h.next := ⟨(R.ext T0).op.new (Nat.le_refl _), (R.ext T0).op.newr (Nat.le_refl _)⟩
 refine Q1 [nv 0, nv 0, nv 0, nv 0] .ptr rfl rfl kr fun h197 c197 t197 n197 => ?_
 have T197 := T0.ext t197
 have N197 := T197.nx
 refine L_g 3 kr (q5 (z1 3 kr (L_c rfl rfl kr (uv1 (R.ext T197) hp hm hact) ?_)))
 rintro v198 h198 ⟨e198, t198⟩
 try dsimp only at e198 t198
 subst e198
 replace c197 := c197.ext t198
 have T198 := T197.ext t198
 have N198 := T198.nx
 have M198 := t198.nx
 refine L_g 5 kr (q5 (q7 (z1 2 kr (q5 (Q2 kr (z6 (q7 (q6 (L_g 2 kr ?_)))))))))
 refine L_c rfl rfl kr (yy5 (R.ext T198) hp he1) ?_
 rintro v199 h199 ⟨e199, N199⟩
 dsimp only at e199 N199
 subst e199
 obtain ⟨S199, C199, ro199, R199, Y199⟩ := N199
 have X199 := ((Gx.refl).trans (Gx.of T198)).trans Y199
 have hr_199 := (Y199.keep _ hr).1
 have m197_199 : ¬ (Gh.mut ⟨Gh.B G, S199, C199, ro199⟩) (h.next) /\ ¬ (Gh.ro ⟨Gh.B G, S199, C199, ro199⟩) (h.next) := ⟨fun hm => (Y199.mu _ hm).elim m197.1 (fun e => by have := c197.lt; omega), fun hm => (Y199.ron _ hm).elim m197.2 (fun e => by have := c197.lt; omega)⟩
 replace c197 := c197.sm Y199.sm m197.1
 have T199 : Sm (Ow h (⟨Gh.B G, S199, C199, ro199⟩ : Gh)) h199 h199 := .refl
 obtain ⟨dvz, hdz, cz⟩ := R199.rqL (p := p) hp1 hr_199
 replace cz : Arm.Cl h199 (G.B (.rq p no)) (rqX (W1.rq p no) dvz ((⟨G.B, S199, C199, ro199⟩ : Gh).S (.pcs p no)) ((⟨G.B, S199, C199, ro199⟩ : Gh).S (.snt p no))) := cz
 obtain ⟨da, dc, rfl⟩ := hdz.1.form
 refine q5 (q7 (z1 3 kr (z9 _ rfl rfl kr (((cz.sm T199 (fun hx => hx.2.1 ⟨.rq p no, hr_199, rfl⟩)).ld (o := 9) kr (by rw [<- hdone]; rfl) : aLoad Tryz.prog 4 ⟨G.B (.rq p no), 9, none⟩ h199 = some (.bool true))) (L_g 1 kr (q5 (Q2 kr (z6 (q7 (q6 ?_)))))))))
 refine L_g 3 kr (L_c rfl rfl kr (Qz6 (R199.ow T199) hp1 hr_199) ?_)
 rintro v200 h200 N200
 dsimp only at N200
 obtain ⟨S200, C200, ro200, R200, Y200⟩ := N200
 have X200 := ((X199).ow T199).trans Y200
 have hr_200 := (Y200.keep _ hr_199).1
 have m197_199_200 : ¬ (Gh.mut ⟨Gh.B (⟨Gh.B G, S199, C199, ro199⟩ : Gh), S200, C200, ro200⟩) (h.next) /\ ¬ (Gh.ro ⟨Gh.B (⟨Gh.B G, S199, C199, ro199⟩ : Gh), S200, C200, ro200⟩) (h.next) := ⟨fun hm => (Y200.mu _ hm).elim m197_199.1 (fun e => by have := c197.lt; omega), fun hm => (Y200.ron _ hm).elim m197_199.2 (fun e => by have := c197.lt; omega)⟩
 replace c197 := c197.sm Y200.sm m197_199.1
 have T200 : Sm (Ow h (⟨Gh.B (⟨Gh.B G, S199, C199, ro199⟩ : Gh), S200, C200, ro200⟩ : Gh)) h200 h200 := .refl
 have eo : (W1.over p no).rq p no = { W1.rq p no with act := false } := Wd.over_rq W1 p no
 have hp2 : p < (W1.over p no).n := by rw [Wd.over_n]; exact hp1
 obtain ⟨dvy, hdy, cy⟩ := R200.rqL (p := p) hp2 hr_200
 rw [eo] at hdy cy
 replace cy : Arm.Cl h200 (G.B (.rq p no)) [nk (W1.rq p no).no, nv (W1.rq p no).peer, nv (W1.rq p no).ctx, nv (W1.rq p no).tag, nv (W1.rq p no).room, .bool (W1.rq p no).send, .bool (W1.rq p no).sync, .bool (W1.rq p no).pers, .bool false, .bool (W1.rq p no).done, nk (W1.rq p no).parts, nk (W1.rq p no).size, dvy, (⟨G.B, S200, C200, ro200⟩ : Gh).S (.pcs p no), nk (W1.rq p no).gone, (⟨G.B, S200, C200, ro200⟩ : Gh).S (.snt p no), .bool (W1.rq p no).clr, nv (W1.rq p no).st.src, nv (W1.rq p no).st.tag, nv (W1.rq p no).st.size, nv (W1.rq p no).st.err] := cy
 obtain ⟨ea, ec, rfl⟩ := hdy.1.form
 refine q5 (q7 (z1 3 kr (z9 _ rfl rfl kr (((cy.sm T200 (fun hx => hx.2.1 ⟨.rq p no, hr_200, rfl⟩)).ld (o := 5) kr (by rw [<- hsd]; rfl) : aLoad Tryz.prog 4 ⟨G.B (.rq p no), 5, none⟩ h200 = some (.bool false))) (q5 (Q2 kr (z6 (q7 (u4 kr (D_e (e := 8) (l := [0,1,2,3,4,5,6,7]) (s' := [0,1,2,3]) kr kr rfl kr z4 ?_)))))))))
 refine z2 3 kr (q9 _ rfl rfl kr kr kr ((cy.sm T200 (fun hx => hx.2.1 ⟨.rq p no, hr_200, rfl⟩)).ldS (k := 4) (o := 17) kr (by simp)) (z2 3 kr (q9 _ rfl rfl kr kr kr ((cy.sm T200 (fun hx => hx.2.1 ⟨.rq p no, hr_200, rfl⟩)).ld (o := 12) kr rfl) (z5 (L_c rfl rfl kr (qu3 (hdy.ext3 T200).1 (qw2 _) (by rw [List.length_map]; exact hdl)) ?_)))))
 rintro v201 h201 ⟨r201, k201, t201, f201, s201⟩
 dsimp only at r201 k201 t201 f201 s201
 have l6 := c197.lt
 have hne9 : ∀ b, vb v201 = some b -> ¬ b = h.next := fun b hb e => by have := (f201 b hb).1; omega
 have hlo9 : ∀ b, vb v201 = some b -> h.next ≤ b := fun b hb => Nat.le_trans (((X200).ow T200)).sm.nx (f201 b hb).1
 replace c197 := c197.ext t201
 have T201 : Sm (Ow h (⟨Gh.B (⟨Gh.B G, S199, C199, ro199⟩ : Gh), S200, C200, ro200⟩ : Gh)) h200 h201 := T200.ext t201
 have N201 := T201.nx
 have U201 : Sm (fun c => c = h.next) h201 h201 := .refl
 refine q5 ⟨rfl, ?_⟩
 refine D_e (e := 9) (l := []) (s' := []) kr kr rfl kr (z3 rfl rfl (z3 rfl rfl (z3 rfl rfl (u6 _ rfl rfl rfl kr ((cy.sm T201 (fun hx => hx.2.1 ⟨.rq p no, hr_200, rfl⟩)).ldS (k := 4) (o := 17) kr (by simp)) kr z4)))) (z5 ?_)
 obtain ⟨h202, e202, d202, t202, n202⟩ := c197.sA 50 [nv (W1.rq p no).st.src, nv (W1.rq p no).st.tag, nv (W1.rq p no).st.size, nv (W1.rq p no).st.err]
 replace c197 := d202
 have T202 : Sm (Ow h (⟨Gh.B (⟨Gh.B G, S199, C199, ro199⟩ : Gh), S200, C200, ro200⟩ : Gh)) h200 h202 := T201.trans t202 (fun x hx => by have hx : x = h.next := hx; subst hx; first | exact .inr (by omega) | exact .inl ⟨by omega, m197_199_200.1, m197_199_200.2⟩ | exact .inl rfl)
 have U202 : Sm (fun c => c = h.next) h201 h202 := U201.trans t202 (fun x hx => by have hx : x = h.next := hx; subst hx; first | exact .inr (by omega) | exact .inl ⟨by omega, m197_199_200.1, m197_199_200.2⟩ | exact .inl rfl)
 have N202 := T202.nx
 have NU202 := U202.nx
 refine Q3 _ rfl rfl rfl kr kr (e202) ?_
 refine q5 ⟨rfl, ?_⟩
 refine D_l (l := [10,11,12]) kr kr z4 (z2 3 kr (z5 (j7 ?_)))
 refine rr ?_
 refine z0 (.inl rfl) (evR_c4 kr kr kr kr (a := ⟨h.next, 0, none⟩) kr (Cl.allN (n := 4) c197 rfl kr) (u := v201) kr (x := .bool true) kr (y := nv 0) kr) ?_
 exact ⟨v201, rfl, r201.sm U202 (fun b hb => hne9 b hb), k201.sm U202 (fun b hb => hne9 b hb), hlo9, _, _, _, (R200.ow T202), ((X200).ow T202)⟩
end
end Go.Proofs.YtjealfplbigphaaGreat
namespace Go.Proofs.YtjealfplbigphaaGreat
noncomputable section
open Go Go.X Go.Arm Go.Mt
theorem qu0 {W : Wd} {G : Gh} {h : AH} {a b : Int} (R : Rep W G h) : aLookup Tryz.prog 60 (.map (some (G.B .ways))) (k2 (a, b)) false h = some (G.S (.way a b)) := by
 obtain ⟨m, hm, hmb, hmC, hmS⟩ := R.ways
 rcases hm.lookup (P := Tryz.prog) (T := 60) (kt := 126) (el := 127) (z := .slice none 0 0) kr uy5 kr (a, b) false with ⟨h1, h2⟩ | ⟨v, y, h1, h2, h3⟩
 . rw [<- hmS a b, h1]; exact h2
 . rw [<- hmS a b, h1, <- h2]; exact h3
theorem xj0 {W : Wd} {G : Gh} {h : AH} {a b : Nat} (R : Rep W G h) (ha : a < W.n) (hb : b < W.n) (hw : W.way a b = []) :
  Arm.Calls Tryz.prog 32 [ptr (G.B .wd), nv (a : Int), nv (b : Int)] h (fun r => r.1 = .tuple ⟨[.bool false, nv 0]⟩ /\ Sm Nix h r.2) := by
 obtain ⟨csg, hgw, lsg⟩ := R.way (a : Int) (b : Int)
 refine j9 71 Tryz.f32 ?_
 have T0 : Sm Nix h h := .refl
 refine z1 2 kr (q5 (q7 (z1 3 kr (L_c rfl rfl kr (xw7 (R.ext T0) ha hb) ?_))))
 rintro v209 h209 ⟨e209, t209⟩
 try dsimp only at e209 t209
 subst e209
 have T209 := T0.ext t209
 have N209 := T209.nx
 have M209 := t209.nx
 refine L_g 1 kr (q5 (z1 2 kr (q5 (Q2 kr (z6 (q7 (q6 (L_g 3 kr ?_))))))))
 have m210 : ¬ (Gh.mut G) h209.next /\ ¬ (Gh.ro G) h209.next := ⟨(R.ext T209).op.new (Nat.le_refl _), (R.ext T209).op.newr (Nat.le_refl _)⟩
 refine Q1 [nv 0, nv 0] .ptr rfl rfl kr fun h210 c210 t210 n210 => ?_
 have T210 := T209.ext t210
 have N210 := T210.nx
 obtain ⟨h211, e211, d211, t211, n211⟩ := c210.sA 126 [nv (a : Int), nv (b : Int)]
 replace c210 := d211
 have T211 := T210.tr t211
 have N211 := T211.nx
 refine Q3 _ rfl rfl rfl kr kr (e211) (q5 (q7 (q7 (u4 kr (D_l (l := [0,1,2,3,4,5,6,7]) kr kr z4 (z2 3 kr (q9 _ rfl rfl kr kr kr ((R.ext T211).wdL.ld (o := 2) kr rfl) (q9 _ rfl rfl kr kr kr (Cl.allN (n := 2) c210 rfl kr) (zy8 _ rfl rfl kr kr kr kr (qu0 (a := (a : Int)) (b := (b : Int)) (R.ext T211)) (uw2 _ rfl rfl kr kr kr ((hgw.ext T211).lenV (T := 127) (el := 129) kr) (J3 (((W.way a b).length : Int)) (0) (.bool true) rfl rfl kr kr kr kr rfl (by rw [hw]; rfl) ?_)))))))))))
 refine z5 (U7 kr (z1 2 kr (q5 (j7 ?_))))
 refine rr ?_
 refine z0 (v := .tuple ⟨[.bool false, nv 0]⟩) (.inl rfl) kr ?_
 exact ⟨rfl, T211⟩
set_option maxHeartbeats 1000000 in
theorem xx9 {W : Wd} {G : Gh} {h : AH} {a b : Nat} {x : Pk} {l : List Pk} (R : Rep W G h) (ha : a < W.n) (hb : b < W.n) (hw : W.way a b = x :: l) (hbig : (W.pr b).inb.length < big) :
  Arm.Calls Tryz.prog 32 [ptr (G.B .wd), nv (a : Int), nv (b : Int)] h (fun r => r.1 = .tuple ⟨[.bool true, nv 0]⟩ /\ Nxt ((W.setWay a b l).setPr b { W.pr b with inb := (W.pr b).inb ++ [((a : Int), x)] }) G h r.2) := by
 have hbig : (W.pr b).inb.length < 1000000000 := hbig
 obtain ⟨csg, hgw, lsg⟩ := R.way (a : Int) (b : Int)
 obtain ⟨c0, ⟨v0, hv0, rfl⟩, hcl0, hcc0⟩ := lsg.get (i := 0) (x := x) (by rw [hw]; rfl)
 obtain ⟨ty, u, rfl⟩ := hv0.iface
 have hc0 : csg[0 * 1 + 0]? = some (Value.iface ty u) := hcc0 0 (by decide)
 refine j9 71 Tryz.f32 ?_
 have T0 : Sm Nix h h := .refl
 refine z1 2 kr (q5 (q7 (z1 3 kr (L_c rfl rfl kr (xw7 (R.ext T0) ha hb) ?_))))
 rintro v212 h212 ⟨e212, t212⟩
 try dsimp only at e212 t212
 subst e212
 have T212 := T0.ext t212
 have N212 := T212.nx
 have M212 := t212.nx
 refine L_g 1 kr (q5 (z1 2 kr (q5 (Q2 kr (z6 (q7 (q6 (L_g 3 kr ?_))))))))
 have m213 : ¬ (Gh.mut G) h212.next /\ ¬ (Gh.ro G) h212.next := ⟨(R.ext T212).op.new (Nat.le_refl _), (R.ext T212).op.newr (Nat.le_refl _)⟩
 refine Q1 [nv 0, nv 0] .ptr rfl rfl kr fun h213 c213 t213 n213 => ?_
 have T213 := T212.ext t213
 have N213 := T213.nx
 obtain ⟨h214, e214, d214, t214, n214⟩ := c213.sA 126 [nv (a : Int), nv (b : Int)]
 replace c213 := d214
 have T214 := T213.tr t214
 have N214 := T214.nx
 refine Q3 _ rfl rfl rfl kr kr (e214) (q5 (q7 (q7 (u4 kr (D_l (l := [0,1,2,3,4,5,6,7]) kr kr z4 (z2 3 kr (q9 _ rfl rfl kr kr kr ((R.ext T214).wdL.ld (o := 2) kr rfl) (q9 _ rfl rfl kr kr kr (Cl.allN (n := 2) c213 rfl kr) (zy8 _ rfl rfl kr kr kr kr (qu0 (a := (a : Int)) (b := (b : Int)) (R.ext T214)) (uw2 _ rfl rfl kr kr kr ((hgw.ext T214).lenV (T := 127) (el := 129) kr) (J3 (((W.way a b).length : Int)) (0) (.bool false) rfl rfl kr kr kr kr rfl (by rw [hw]; simp; omega) ?_)))))))))))
 refine z5 (Q2 kr (z6 (q7 (u4 kr (D_e (e := 28) (l := [0,1,2,3,4,5,6,7,8,9,10,11,12,13,14,15,16,17,18,19,20,21,22,23,24,25,26,27]) (s' := [0,1,2,3,4,5,6]) kr kr rfl kr z4 (z2 3 kr (q9 _ rfl rfl kr kr kr ((R.ext T214).wdL.ld (o := 1) kr rfl) (z2 1 kr ?_))))))))
 obtain ⟨b1, o1, i1, l1, v1⟩ := (R.ext T214).prsAt2 (P := Tryz.prog) (T := 61) (el := 64) kr kr kr hb
 have lt1 := (R.ext T214).prsL.lt v1
 refine U0 _ rfl rfl kr kr kr kr (i1) (q9 _ rfl rfl kr kr kr (l1) (z2 3 kr (q9 _ rfl rfl kr kr kr ((R.ext T214).wdL.ld (o := 1) kr rfl) (z2 1 kr (U0 _ rfl rfl kr kr kr kr (i1) (q9 _ rfl rfl kr kr kr (l1) (z2 2 kr (q9 _ rfl rfl kr kr kr (((R.ext T214).prL hb).ld (o := 3) kr rfl) (z2 4 kr (q9 _ rfl rfl kr kr kr ((R.ext T214).wdL.ld (o := 2) kr rfl) (q9 _ rfl rfl kr kr kr (Cl.allN (n := 2) c213 rfl kr) ?_)))))))))))
 refine zy8 _ rfl rfl kr kr kr kr (qu0 (a := (a : Int)) (b := (b : Int)) (R.ext T214)) ?_
 obtain ⟨b9, o9, v9, i9, l9⟩ := (hgw.sd.ext T214).at (P := Tryz.prog) (T := 127) (el := 129) kr kr (show 0 < (W.way a b).length by rw [hw]; simp) .i64
 have lt9 := (hgw.ext T214).lt v9
 refine U0 _ rfl rfl kr kr kr kr (i9) (q9 _ rfl rfl kr kr kr (K5 kr (by have := l9 0 (by decide); rw [this]; exact hc0)) (z2 1 kr ?_))
 have m215 : ¬ (Gh.mut G) h214.next /\ ¬ (Gh.ro G) h214.next := ⟨(R.ext T214).op.new (Nat.le_refl _), (R.ext T214).op.newr (Nat.le_refl _)⟩
 refine qu8 [nv (a : Int), .iface ty u] (.sl 1 1) rfl kr rfl rfl kr (z3 rfl rfl (z3 rfl rfl (z3 rfl rfl (u6 _ rfl rfl rfl kr ((R.ext (T214.ext (.push h214 _))).wdL.ld (o := 1) kr rfl) kr (z3 rfl rfl (z3 rfl rfl (u6 _ rfl rfl rfl kr (ldx (l1) (lt1) (.push h214 _)) kr (z3 rfl rfl (z3 rfl rfl (z3 rfl rfl (u6 _ rfl rfl rfl kr ((R.ext (T214.ext (.push h214 _))).wdL.ld (o := 1) kr rfl) kr (z3 rfl rfl (z3 rfl rfl (u6 _ rfl rfl rfl kr (ldx (l1) (lt1) (.push h214 _)) kr (z3 rfl rfl (z3 rfl rfl (u6 _ rfl rfl rfl kr (((R.ext (T214.ext (.push h214 _))).prL hb).ld (o := 3) kr rfl) kr (z3 rfl rfl (z3 rfl rfl (z3 rfl rfl (z3 rfl rfl (u6 _ rfl rfl rfl kr ((R.ext (T214.ext (.push h214 _))).wdL.ld (o := 2) kr rfl) kr (u6 _ rfl rfl rfl kr (Cl.allN (n := 2) (c213.ext (.push h214 _)) rfl kr) kr (Rk_lk _ rfl rfl rfl kr kr (qu0 (a := (a : Int)) (b := (b : Int)) (R.ext (T214.ext (.push h214 _)))) kr (z3 rfl rfl (u6 _ rfl rfl rfl kr (ldx (K5 kr (by have := l9 0 (by decide); rw [this]; exact hc0)) (lt9) (.push h214 _)) kr (z3 rfl rfl (z3 rfl rfl z4)))))))))))))))))))))))))))) fun h215 c215 t215 n215 => ?_
 replace c213 := c213.ext t215
 have T215 := T214.ext t215
 have N215 := T215.nx
 refine z5 ?_
 obtain ⟨csi, gi, lsi⟩ := (R.ext T215).inb hb
 obtain ⟨v216, h216, e216, g216, t216, f216⟩ := gi.append (P := Tryz.prog) (sT := 69) (xT := 69) (el := 131) (by_ := 24) (z := (.agg ⟨[.int .i64 0, .nilIface]⟩)) (m := 1) (ds := [nv (a : Int), .iface ty u]) kr kr kr kr kr rfl (by decide) (xj1 2 c215 rfl) (List.all_eq_true.1 rfl) (by omega)
 obtain ⟨va, vc, rfl⟩ := g216.sd.form
 have l9' := c213.lt
 have inbC : G.C (.inb b) ≠ .no := by obtain ⟨cs, e, _⟩ := (R.rel.pr b hb).inb; rw [e]; simp
 have hnw1 : ¬ vb (G.S (.inb b)) = some (G.B .wd) := fun e => R.op.ne (r := .inb b) (r' := .wd) inbC (by rw [R.rel.wd]; simp) (by simp) (J4 e) rfl
 have hnw2 : ∀ x, vb (G.S (.inb b)) = some x -> ¬ vb (G.S .prs) = some x := fun x e e2 => R.op.ne (r := .inb b) (r' := .prs) inbC (by rw [R.rel.prs]; simp) (by simp) (J4 e) (J4 e2)
 have mK9 := m213
 have mK5 := m215
 refine V9 (.slice va ((W.pr b).inb.length + 1) vc) h216 rfl rfl kr (vs := [G.S (.inb b), .slice (some ⟨h214.next, 0, none⟩) 1 1]) kr (J7 e216) ?_
 replace c213 := c213.sm t216 (by first | exact fun e => mK9.1 ⟨.inb b, inbC, J4 e⟩ | exact fun e => mK5.1 ⟨.inb b, inbC, J4 e⟩)
 have T216 : Sm (fun c => vb (G.S (.inb b)) = some c) h215 h216 := t216
 have N216 := T216.nx
 refine q5 ⟨rfl, ?_⟩
 refine D_e (e := 31) (l := [29,30]) (s' := []) kr kr rfl kr (z3 rfl rfl (z3 rfl rfl (z3 rfl rfl (u6 _ rfl rfl rfl kr (((R.ext T215).wdL.sm T216 hnw1).ld (o := 1) kr rfl) kr (z3 rfl rfl (z3 rfl rfl (u6 _ rfl rfl rfl kr (ld_sm kr (ld_sm kr l1 t215 lt1 (fun x => x)) T216 (Nat.lt_of_lt_of_le lt1 (t215).nx) (fun e => hnw2 b1 e v1)) kr z4))))))) (z2 2 kr (z5 ?_))
 have Rb := R.ext T215
 have hnw : ¬ vb (G.S (.inb b)) = some (G.B (.pr b)) := fun e => Rb.op.ne (r := .inb b) (r' := .pr b) (by obtain ⟨cs, e, _⟩ := (Rb.rel.pr b hb).inb; rw [e]; simp) (by rw [(Rb.rel.pr b hb).pr]; simp) (by simp) (J4 e) rfl
 obtain ⟨h217, e217, d217, t217, n217⟩ := ((Rb.prL hb).sm T216 hnw).store (P := Tryz.prog) (T := 69) (o := 3) (v := .slice va ((W.pr b).inb.length + 1) vc) kr rfl rfl (by simp [prC])
 have hlen : ((W.pr b).inb ++ [((a : Int), x)]).length = (W.pr b).inb.length + 1 := by simp
 rw [<- hlen] at d217
 have hN := Rb.setInb hb (l := (W.pr b).inb ++ [((a : Int), x)]) (lsi.app (Ls.one ⟨_, hv0.mono (R.op.dr (T215).of), rfl⟩ rfl)) (by rw [hlen]; exact g216) T216 (fun c hc => .inl hc) (fun c hc => by rw [hlen] at hc; exact f216 c hc) d217 t217
 obtain ⟨S9, C9, ro9, R9, Y9⟩ := hN
 have X9 := (Gx.of T215).trans Y9
 have l99 := c213.lt
 have mA9 : ¬ (Gh.mut ⟨G.B, S9, C9, ro9⟩) (h212.next) /\ ¬ ro9 (h212.next) := ⟨fun hm => (Y9.mu _ hm).elim mK9.1 (fun e => by omega), fun hm => (Y9.ron _ hm).elim mK9.2 (fun e => by omega)⟩
 have hpl := R.prLt hb
 refine Q3 _ rfl rfl rfl kr kr (e217) ?_
 replace c213 := c213.sn t217
 have T217 : Sm (Ow h ⟨G.B, S9, C9, ro9⟩) h217 h217 := .refl
 refine q5 ⟨rfl, ?_⟩
 refine D_l (l := []) kr kr z4 (z5 (q7 (u4 kr (D_e (e := 12) (l := [0,1,2,3,4,5,6,7,8,9,10,11]) (s' := []) kr kr rfl kr z4 (z2 3 kr (q9 _ rfl rfl kr kr kr ((R9.ow T217).wdL.ld (o := 2) kr rfl) (q9 _ rfl rfl kr kr kr (Cl.allN (n := 2) c213 rfl kr) (z2 3 kr (q9 _ rfl rfl kr kr kr ((R9.ow T217).wdL.ld (o := 2) kr rfl) (q9 _ rfl rfl kr kr kr (Cl.allN (n := 2) c213 rfl kr) (zy8 _ rfl rfl kr kr kr kr (qu0 (a := (a : Int)) (b := (b : Int)) (R9.ow T217)) ?_)))))))))))
 obtain ⟨csw, gw, lsw⟩ := (R9.ow T217).way (a : Int) (b : Int)
 have gw : Gr h217 1 (S9 (.way (a : Int) (b : Int))) (W.way a b).length csw := gw
 have lsw : Ls (RPk h217 ro9) 1 (W.way a b) csw := lsw
 rw [hw] at gw lsw
 obtain ⟨vt, et, gt, bt⟩ := gw.tailK (P := Tryz.prog) (T := 127) (el := 129) kr kr
 obtain ⟨cw, _, hcl9, _, lst⟩ := lsw.tail
 refine zy7 _ rfl rfl kr kr kr kr kr kr (et) (z5 ?_)
 obtain ⟨m9, hm9, hmb9, hmC9, hmN9, hmS9⟩ := (R9.ow T217).waysN
 obtain ⟨h218, e218, mp218, t218, n218⟩ := hm9.update (P := Tryz.prog) (T := 60) (el := 127) kr uy5 ((a : Int), (b : Int)) (v := vt) (y := vt) rfl
 have N218 : Nxt ((W.setPr b { W.pr b with inb := (W.pr b).inb ++ [((a : Int), x)] }).setWay a b l) (⟨G.B, S9, C9, ro9⟩ : Gh) h217 h218 := (R9.ow T217).setWay a b (l := l) (v := vt) (qw0 hmN9 _ _) (yz8 (G := (⟨G.B, S9, C9, ro9⟩ : Gh)) hmS9) lst gt Sm.refl (fun c hc => (show False from hc).elim) (fun c hc => .inl (bt ▸ hc)) mp218 (hmb9.update e218) t218
 refine L_mu _ rfl rfl rfl kr kr kr e218 ?_
 obtain ⟨S218, C218, ro218, R218, Y218⟩ := N218
 have X218 := ((X9).ow T217).trans Y218
 have mA9_218 : ¬ (Gh.mut ⟨Gh.B (⟨G.B, S9, C9, ro9⟩ : Gh), S218, C218, ro218⟩) (h212.next) /\ ¬ (Gh.ro ⟨Gh.B (⟨G.B, S9, C9, ro9⟩ : Gh), S218, C218, ro218⟩) (h212.next) := ⟨fun hm => (Y218.mu _ hm).elim mA9.1 (fun e => by have := c213.lt; omega), fun hm => (Y218.ron _ hm).elim mA9.2 (fun e => by have := c213.lt; omega)⟩
 have T218 : Sm (Ow h (⟨Gh.B (⟨G.B, S9, C9, ro9⟩ : Gh), S218, C218, ro218⟩ : Gh)) h218 h218 := .refl
 refine q5 ⟨rfl, ?_⟩
 refine D_l (l := []) kr kr z4 (z5 (z1 2 kr (q5 (j7 ?_))))
 refine rr ?_
 refine z0 (v := .tuple ⟨[.bool true, nv 0]⟩) (.inl rfl) kr ?_
 have ew : (W.setPr b { W.pr b with inb := (W.pr b).inb ++ [((a : Int), x)] }).setWay (a : Int) (b : Int) l = (W.setWay (a : Int) (b : Int) l).setPr b { W.pr b with inb := (W.pr b).inb ++ [((a : Int), x)] } := rfl
 exact ⟨rfl, _, _, _, ew ▸ (R218.ow T218), ((X218).ow T218)⟩
end
end Go.Proofs.YtjealfplbigphaaGreat
namespace Go.Proofs.YtjealfplbigphaaGreat
noncomputable section
open Go Go.X Go.Arm Go.Mt
theorem gt_nat (n : Nat) : Value.bool (decide ((0 : Int) < (n : Int))) = Value.bool (decide (0 < n)) := by
 congr 1; by_cases h : 0 < n <;> simp [h]
theorem jx5 {κ β : Type} [DecidableEq κ] {l : List (κ × β)} {k : κ} {n : β} (h : kget l k = some n) : ∃ x, x ∈ l /\ x.1 = k := by
 induction l with
 | nil => cases h
 | cons y l ih =>
  unfold kget at h
  split at h
  . rename_i e; exact ⟨y, List.mem_cons.2 (.inl rfl), e⟩
  . obtain ⟨x, h1, h2⟩ := ih h; exact ⟨x, List.mem_cons_of_mem _ h1, h2⟩
theorem jy2 {W : Wd} (hw : ∀ a b, W.way a b = []) : (!((List.range W.n).findIdx? (fun p => decide (0 < (W.pr p).inb.length))).isSome) = true ↔ W.quiet := by
 cases hf : (List.range W.n).findIdx? (fun p => decide (0 < (W.pr p).inb.length)) with
 | none =>
  refine ⟨fun _ => ⟨hw, fun p hp => ?_⟩, fun _ => rfl⟩
  have := List.findIdx?_eq_none_iff.1 hf p (List.mem_range.2 hp)
  have h0 : ¬ 0 < (W.pr p).inb.length := by simpa using this
  exact List.length_eq_zero_iff.1 (by omega)
 | some i =>
  refine ⟨(fun h => by cases h), fun hq => ?_⟩
  rw [List.findIdx?_eq_some_iff_getElem] at hf
  obtain ⟨h1, h2, _⟩ := hf
  simp at h1 h2
  have := hq.2 i h1
  rw [this] at h2; simp at h2
theorem ixf_pr {h : AH} {s : Value} {g : FuncId} {cs : List Value} {α : Type} {l : List α} {pr : α -> Bool} (H : Sd h 1 s l.length cs) (hl : l.length < big) (hg : ∀ vs h, aCallX Tryz.prog g vs h = some [(.enter g vs, h)])
  (hc : ∀ (i : Nat) x, l[i]? = some x -> ∃ v, cs[i]? = some v /\ ∀ h', Sm Nix h h' -> Arm.Calls Tryz.prog g [v] h' (fun r => r.1 = .bool (pr x) /\ Sm Nix h' r.2)) :
  Arm.Calls Tryz.prog 85 [s, .func (.func g) ⟨[]⟩ ⟨[]⟩] h (fun r => r.1 = nv (match l.findIdx? pr with | some i => (i : Int) | none => -1) /\ Sm Nix h r.2) := by
 have hl : l.length < 1000000000 := hl
 refine j9 19 Tryz.f85 ?_
 have T0 : Sm Nix h h := .refl
 refine z1 1 kr (q5 (q7 (z1 1 kr (V4 _ rfl rfl kr ((H.ext T0).len (T := 61) (el := 64) kr) (L_g 1 kr (q5 (u3 ?_)))))))
 refine J5 (fun mm fr hh => ∃ (k : Nat), (k ≤ l.length) /\ (l.findIdx? pr = ((l.drop k).findIdx? pr).map (· + k)) /\ mm = l.length - k /\ fr 0 = s /\ fr 1 = .func (.func g) ⟨[]⟩ ⟨[]⟩ /\ fr 7 = nv (l.length : Int) /\ fr 8 = nv (k : Int) /\ Sm Nix h hh) (l.length) ?_ ?_
 ·
  exact ⟨0, Nat.zero_le _, by simp, rfl, kr, kr, kr, kr, T0⟩
 rintro mm226 fr226 h226 ⟨k, hk, hf, hm226, y226_0, y226_1, y226_7, y226_8, T226⟩
 have N226 := T226.nx
 refine j8 (k := 0) y226_0 (j8 (k := 1) y226_1 (j8 (k := 7) y226_7 (j8 (k := 8) y226_8 (z1 1 kr (q5 (q7 ?_))))))
 refine Q0 (decide ((k : Int) < (l.length : Nat))) kr (fun hb => ?_) (fun hb => ?_)
 ·
  have hlt : k < l.length := by simp at hb; omega
  obtain ⟨x, hx⟩ : ∃ x, l[k]? = some x := ⟨_, List.getElem?_eq_getElem hlt⟩
  have hdr : l.drop k = x :: l.drop (k + 1) := by rw [List.drop_eq_getElem_cons hlt]; congr 1; exact (List.getElem?_eq_some_iff.1 hx).2
  obtain ⟨v, hv, hcall⟩ := hc k x hx
  obtain ⟨b9, o9, _, i9, l9⟩ := (H.ext T226).at (P := Tryz.prog) (T := 61) (el := 64) kr kr hlt .i64
  refine z6 (q7 (u3 (z1 2 kr (q5 (z1 3 kr (Z8 _ rfl rfl kr kr (i9) (z9 _ rfl rfl kr (K5 kr (by have := l9 0 (by decide); rw [Nat.add_zero, Nat.mul_one, Nat.add_zero] at this; rw [this]; exact hv)) ?_)))))))
  refine L_c rfl rfl (Eq.trans (b := aCallX Tryz.prog g [v] h226) kr (hg _ _)) (hcall _ T226) ?_
  rintro v227 h227 ⟨e227, t227⟩
  try dsimp only at e227 t227
  subst e227
  have T227 := T226.ext t227
  have N227 := T227.nx
  have M227 := t227.nx
  refine q5 ?_
  refine Q0 (pr x) kr (fun hb => ?_) (fun hb => ?_)
  ·
   have hres : nv (match l.findIdx? pr with | some i => (i : Int) | none => -1) = nv (k : Int) := by rw [hf, hdr, List.findIdx?_cons, hb]; simp
   rw [hres]
   refine z1 2 kr (q5 (j7 ?_))
   refine rr ?_
   refine z0 (v := nv (k : Int)) (.inl rfl) kr ?_
   exact ⟨rfl, T227⟩
  ·
   have hfb : pr x = false := hb
   refine z6 (q6 (L_i ((k : Int)) (1) (nv ((k + 1 : Nat) : Int)) rfl rfl kr kr rfl (Z4 (by omega)) (L_g 1 kr (q5 ?_))))
   exact ⟨l.length - (k + 1), by omega, k + 1, by omega, qv6 hf hdr hfb, rfl, kr, kr, kr, kr, T227⟩
 ·
  have hge : k = l.length := by simp at hb; omega
  have hres : nv (match l.findIdx? pr with | some i => (i : Int) | none => -1) = nv (-1) := by rw [hf, hge]; simp
  rw [hres]
  refine J8 ?_
  refine rx ?_
  refine Q7 (z1 1 kr (q5 (j7 ?_)))
  refine rr ?_
  refine z0 (v := nv (-1)) (.inl rfl) kr ?_
  exact ⟨rfl, T226⟩
theorem jy3 {W : Wd} {G : Gh} {h : AH} {p : Nat} (R : Rep W G h) (hp : p < W.n) :
  Arm.Calls Tryz.prog 56 [ptr (G.B (.pr p))] h (fun r => r.1 = .bool (decide (0 < (W.pr p).inb.length)) /\ Sm Nix h r.2) := by
 obtain ⟨cs, g0, ls⟩ := R.inb hp
 refine j9 9 Tryz.f56 ?_
 have T0 : Sm Nix h h := .refl
 refine z1 1 kr (q5 (z1 3 kr (z9 _ rfl rfl kr (((R.ext T0).prL hp).ld (o := 3) kr rfl) (V4 _ rfl rfl kr ((g0.ext T0).lenV (T := 69) (el := 131) kr) (L_i (((W.pr p).inb.length : Int)) (0) (.bool (decide (0 < (W.pr p).inb.length))) rfl rfl kr kr rfl (gt_nat _) (L_g 1 kr (q5 ?_)))))))
 refine j7 ?_
 refine rr ?_
 refine z0 (v := .bool (decide (0 < (W.pr p).inb.length))) (.inl rfl) kr ?_
 exact ⟨rfl, T0⟩
theorem qcf_ok {W : Wd} {G : Gh} {h : AH} (R : Rep W G h) (hn : W.n < big) :
  Arm.Calls Tryz.prog 55 [G.S .prs, .func (.func 56) ⟨[]⟩ ⟨[]⟩] h (fun r => r.1 = .bool ((List.range W.n).findIdx? (fun p => decide (0 < (W.pr p).inb.length))).isSome /\ Sm Nix h r.2) := by
 have hix := ixf_pr (pr := fun p => decide (0 < (W.pr p).inb.length)) (l := List.range W.n) (by rw [List.length_range]; exact R.prsL) (by rw [List.length_range]; exact hn) (g := 56) (fun _ _ => by kernel_rfl) (fun i x hx => by
  obtain ⟨hl, e⟩ := List.getElem?_eq_some_iff.1 hx
  simp at hl e; subst e
  exact ⟨_, by rw [List.getElem?_map, List.getElem?_range hl]; rfl, fun h' t => jy3 (R.ext t) hl⟩)
 cases hf : (List.range W.n).findIdx? (fun p => decide (0 < (W.pr p).inb.length)) with
 | none =>
  rw [hf] at hix
  refine j9 9 Tryz.f55 ?_
  have T0 : Sm Nix h h := .refl
  refine z1 1 kr (q5 (z1 2 kr (L_c rfl rfl kr (hix) ?_)))
  rintro v219 h219 ⟨e219, t219⟩
  try dsimp only at e219 t219
  subst e219
  have T219 := T0.ext t219
  have N219 := T219.nx
  have M219 := t219.nx
  refine L_i (-1) (0) (.bool false) rfl rfl kr kr rfl (by first | (simp; done) | (simp; omega)) (L_g 1 kr (q5 (j7 ?_)))
  refine rr ?_
  refine z0 (v := .bool false) (.inl rfl) kr ?_
  exact ⟨rfl, T219⟩
 | some i =>
  rw [hf] at hix
  refine j9 9 Tryz.f55 ?_
  have T0 : Sm Nix h h := .refl
  refine z1 1 kr (q5 (z1 2 kr (L_c rfl rfl kr (hix) ?_)))
  rintro v220 h220 ⟨e220, t220⟩
  try dsimp only at e220 t220
  subst e220
  have T220 := T0.ext t220
  have N220 := T220.nx
  have M220 := t220.nx
  refine L_i ((i : Int)) (0) (.bool true) rfl rfl kr kr rfl (by first | (simp; done) | (simp; omega)) (L_g 1 kr (q5 (j7 ?_)))
  refine rr ?_
  refine z0 (v := .bool true) (.inl rfl) kr ?_
  exact ⟨rfl, T220⟩
theorem yu9 {W : Wd} {G : Gh} {h : AH} (R : Rep W G h) (hn : W.n < big) :
  Arm.Calls Tryz.prog 34 [ptr (G.B .wd)] h (fun r => ∃ b, r.1 = .bool b /\ (b = true ↔ W.quiet) /\ Sm Nix h r.2) := by
 obtain ⟨m, hm, hmb, hmC, hmN, hmS⟩ := R.waysN
 have hwl := R.waysLt
 refine j9 26 Tryz.f34 ?_
 have T0 : Sm Nix h h := .refl
 refine z1 1 kr (q5 (q7 (z1 1 kr (L_c rfl rfl kr (qw5 (R.ext T0)) ?_))))
 rintro v221 h221 ⟨e221, t221⟩
 try dsimp only at e221 t221
 subst e221
 have T221 := T0.ext t221
 have N221 := T221.nx
 have M221 := t221.nx
 refine L_g 1 kr (q5 (Q2 kr (z6 (q7 (z1 3 kr (z9 _ rfl rfl kr ((R.ext T221).wdL.ld (o := 2) kr rfl) ?_))))))
 obtain ⟨h222, e222, ⟨c0, hI0⟩, t222, n222⟩ := Itr.start (P := Tryz.prog) (T := 60) (kt := 126) (el := 127) kr (hm.sm T221 (fun x => x) (fun _ _ e => e)) (hmb.sm T221 hm.1 (fun x => x))
 refine L_rg _ rfl rfl kr e222 ?_
 have T222 := T221.ext t222
 have N222 := T222.nx
 refine q5 (u3 ?_)
 refine J5 (fun mm fr hh => ∃ dn : Nat -> Prop, Itr hh h221.next (G.B .ways) k2 Eq m dn mm /\ Sm Nix h hh /\ (∀ i x, m[i]? = some x -> dn i -> W.way x.1.1 x.1.2 = []) /\ fr 0 = ptr (G.B .wd) /\ fr 12 = .pointer (some ⟨h221.next, 0, none⟩)) (c0) ?_ ?_
 ·
  exact ⟨_, hI0, T222, fun i x _ hd => hd.elim, kr, kr⟩
 clear hI0
 rintro mm fr hh ⟨dn, hI, TL, hdn, y0, y12⟩
 refine j8 (k := 0) y0 (j8 (k := 12) y12 ?_)
 have NL := TL.nx
 refine q7 (q6 ?_)
 refine L_nx rfl rfl kr hI (fun hall => ?_) (fun ie e vnx cnx hnx hie hndn hRv hcl hInx tnx nnx henx => ?_)
 ·
  have hway : ∀ a b, W.way a b = [] := by
   intro a b
   cases hk : kget m (a, b) with
   | none =>
    obtain ⟨csw, gw, _⟩ := R.way a b
    have hs := hmS a b
    rw [hk] at hs
    rw [<- hs] at gw
    obtain ⟨a', c', e'⟩ := gw.sd.form
    have e' : Value.slice none 0 0 = Value.slice a' (W.way a b).length c' := e'
    cases hw : W.way a b with
    | nil => rfl
    | cons y l => rw [hw] at e'; cases e'
   | some v =>
    obtain ⟨x, hx, hxv⟩ := jx5 hk
    obtain ⟨i, hi, hie⟩ := List.getElem_of_mem hx
    have := hdn i x (by rw [List.getElem?_eq_getElem hi, hie]) (hall i hi)
    rw [hxv] at this; exact this
  refine L_g 1 kr (q5 (q7 (Q2 kr (J8 ?_))))
  refine rx ?_
  refine Q7 (z1 3 kr (z9 _ rfl rfl kr ((R.ext TL).wdL.ld (o := 1) kr rfl) (L_c rfl rfl kr (qcf_ok (R.ext TL) hn) ?_)))
  rintro v224 h224 ⟨e224, t224⟩
  try dsimp only at e224 t224
  subst e224
  have T224 := TL.ext t224
  have N224 := T224.nx
  have M224 := t224.nx
  refine L_g 2 kr (q5 (j7 ?_))
  refine rr ?_
  refine z0 (v := .bool (!((List.range W.n).findIdx? (fun p => decide (0 < (W.pr p).inb.length))).isSome)) (.inl rfl) kr ?_
  exact ⟨_, rfl, jy2 hway, T224⟩
 ·
  have Tnx : Sm Nix h hnx := TL.trans tnx (fun b hb => .inr (by have hb : b = h221.next := hb; omega))
  have Nnx := Tnx.nx
  have hge := xx3 hmN (List.mem_of_getElem? hie)
  have hse := hmS e.1.1 e.1.2
  rw [hge] at hse
  obtain ⟨csw, gw, _⟩ := R.way e.1.1 e.1.2
  rw [<- hse, show (some e.2).getD nilS = vnx from hRv.symm] at gw
  refine L_g 1 kr (q5 (q7 (U7 kr (z6 (u3 (q7 (q6 (L_p (.tuple ⟨[k2 e.1, vnx]⟩) rfl (by exact henx) (L_g 2 kr (q5 (q7 ?_)))))))))))
  by_cases hemp : W.way e.1.1 e.1.2 = []
  ·
   refine Z3 1 kr (V4 _ rfl rfl kr ((gw.ext Tnx).lenV (T := 127) (el := 129) kr) (L_i (((W.way e.1.1 e.1.2).length : Int)) (0) (.bool false) rfl rfl kr kr rfl (by rw [hemp]; rfl) (q5 (Q2 kr (z6 ?_)))))
   exact ⟨cnx, hcl, _, hInx, Tnx, fun i x hx hd => by
    rcases hd with rfl | hd
    . rw [hx] at hie; cases hie; exact hemp
    . exact hdn i x hx hd, kr, kr⟩
  ·
   refine Z3 1 kr (V4 _ rfl rfl kr ((gw.ext Tnx).lenV (T := 127) (el := 129) kr) (L_i (((W.way e.1.1 e.1.2).length : Int)) (0) (.bool true) rfl rfl kr kr rfl (by have := List.length_pos_iff.2 hemp; simp; omega) (q5 (U7 kr (z1 1 kr (q5 (j7 ?_)))))))
   refine rr ?_
   refine z0 (v := .bool false) (.inl rfl) kr ?_
   exact ⟨_, rfl, ⟨(fun e9 => by cases e9), fun hq => (hemp (hq.1 _ _)).elim⟩, Tnx⟩
end
end Go.Proofs.YtjealfplbigphaaGreat
namespace Go.Proofs.YtjealfplbigphaaGreat
noncomputable section
open Go Go.X Go.Arm Go.Mt
theorem xg2 {P : Program} {T U : TypeId} {d s v : Value} {h h' : AH} (e : aCopy P T d s h = some (v, h')) : aBuiltin P .copy [T, U] [d, s] h = some [(.val v, h')] := by
 show ovh (aCopy P T d s h) = _
 rw [e]; rfl
theorem Qu4 {a b : Nat} (h : a + b < 1000000000) : Value.int .i64 (IntKind.i64.wrap ((a : Int) + (b : Int))) = nv ((a + b : Nat) : Int) := by
 have : IntKind.i64.wrap ((a : Int) + (b : Int)) = ((a + b : Nat) : Int) := by rw [IntKind.wrap_i64]; omega
 rw [this]; rfl
theorem uz0 {h : AH} {n : Nat} (hn : n = 1 ∨ n = 2 ∨ n = 3 ∨ n = 4 ∨ n = 5 ∨ n = 6 ∨ n = 7 ∨ n = 8 ∨ n = 9 ∨ n = 10 ∨ n = 11 ∨ n = 12) :
  Arm.Calls Tryz.prog 77 [.int .u64 1, .int .u64 (n : Int)] h (fun r => r.1 = .tuple ⟨[.int .u64 0, .int .u64 (n : Int)]⟩ /\ Sm Nix h r.2) := by
 rcases hn with rfl | rfl | rfl | rfl | rfl | rfl | rfl | rfl | rfl | rfl | rfl | rfl
 all_goals
  refine j9 51 Tryz.f77 ?_
  have T0 : Sm Nix h h := .refl
  refine z1 2 kr (q5 (z1 3 kr (q5 (z1 3 kr (q5 ?_)))))
  refine z1 3 kr (q5 (z1 3 kr (q5 (z1 4 kr (q5 ?_)))))
  refine z1 7 kr (q5 (z1 3 kr (q5 (z1 3 kr (q5 ?_)))))
  refine z1 6 kr (q5 (z1 9 kr (q5 (z1 4 kr (q5 ?_)))))
  refine j7 ?_
  refine rr ?_
  first
   | (refine z0 (v := .tuple ⟨[.int .u64 0, .int .u64 ((1 : Nat) : Int)]⟩) (.inl rfl) kr ?_; exact ⟨rfl, T0⟩)
   | (refine z0 (v := .tuple ⟨[.int .u64 0, .int .u64 ((2 : Nat) : Int)]⟩) (.inl rfl) kr ?_; exact ⟨rfl, T0⟩)
   | (refine z0 (v := .tuple ⟨[.int .u64 0, .int .u64 ((3 : Nat) : Int)]⟩) (.inl rfl) kr ?_; exact ⟨rfl, T0⟩)
   | (refine z0 (v := .tuple ⟨[.int .u64 0, .int .u64 ((4 : Nat) : Int)]⟩) (.inl rfl) kr ?_; exact ⟨rfl, T0⟩)
   | (refine z0 (v := .tuple ⟨[.int .u64 0, .int .u64 ((5 : Nat) : Int)]⟩) (.inl rfl) kr ?_; exact ⟨rfl, T0⟩)
   | (refine z0 (v := .tuple ⟨[.int .u64 0, .int .u64 ((6 : Nat) : Int)]⟩) (.inl rfl) kr ?_; exact ⟨rfl, T0⟩)
   | (refine z0 (v := .tuple ⟨[.int .u64 0, .int .u64 ((7 : Nat) : Int)]⟩) (.inl rfl) kr ?_; exact ⟨rfl, T0⟩)
   | (refine z0 (v := .tuple ⟨[.int .u64 0, .int .u64 ((8 : Nat) : Int)]⟩) (.inl rfl) kr ?_; exact ⟨rfl, T0⟩)
   | (refine z0 (v := .tuple ⟨[.int .u64 0, .int .u64 ((9 : Nat) : Int)]⟩) (.inl rfl) kr ?_; exact ⟨rfl, T0⟩)
   | (refine z0 (v := .tuple ⟨[.int .u64 0, .int .u64 ((10 : Nat) : Int)]⟩) (.inl rfl) kr ?_; exact ⟨rfl, T0⟩)
   | (refine z0 (v := .tuple ⟨[.int .u64 0, .int .u64 ((11 : Nat) : Int)]⟩) (.inl rfl) kr ?_; exact ⟨rfl, T0⟩)
   | (refine z0 (v := .tuple ⟨[.int .u64 0, .int .u64 ((12 : Nat) : Int)]⟩) (.inl rfl) kr ?_; exact ⟨rfl, T0⟩)
theorem mul_ok {h : AH} {n : Nat} (hn : n = 1 ∨ n = 2 ∨ n = 3 ∨ n = 4 ∨ n = 5 ∨ n = 6 ∨ n = 7 ∨ n = 8 ∨ n = 9 ∨ n = 10 ∨ n = 11 ∨ n = 12) :
  Arm.Calls Tryz.prog 44 [.int .u64 1, .int .u64 (n : Int)] h (fun r => r.1 = .tuple ⟨[.int .u64 0, .int .u64 (n : Int)]⟩ /\ Sm Nix h r.2) := by
 refine j9 30 Tryz.f44 ?_
 have T0 : Sm Nix h h := .refl
 refine z1 2 kr (q5 (q7 (Q2 kr (z6 (z1 2 kr (L_c rfl rfl kr (uz0 hn) ?_))))))
 rintro v228 h228 ⟨e228, t228⟩
 try dsimp only at e228 t228
 subst e228
 have T228 := T0.ext t228
 have N228 := T228.nx
 have M228 := t228.nx
 refine L_g 5 kr (q5 (z1 4 kr (q5 (j7 ?_))))
 refine rr ?_
 refine z0 (v := .tuple ⟨[.int .u64 0, .int .u64 (n : Int)]⟩) (.inl rfl) kr ?_
 exact ⟨rfl, T228⟩
theorem jy0 {h : AH} {n b0 : Nat} {c : Int} (hc0 : Arm.Cl h b0 [nv c]) (hn : n = 1 ∨ n = 2 ∨ n = 3 ∨ n = 4 ∨ n = 5 ∨ n = 6 ∨ n = 7 ∨ n = 8 ∨ n = 9 ∨ n = 10 ∨ n = 11 ∨ n = 12) :
  Arm.Calls Tryz.prog 21 [.slice (some ⟨b0, 0, none⟩) 1 1, nv (n : Int)] h (fun r => ∃ bb, h.next ≤ bb /\ Arm.Cl r.2 bb (List.replicate n (nv c)) /\ r.1 = .slice (some ⟨bb, 0, none⟩) n n /\ Sm Nix h r.2) := by
 have hn0 : 0 < n := by omega
 have hn9 : n < 13 := by omega
 have hop : n < u7 := Nat.lt_trans hn9 (by decide)
 have hbl := hc0.lt
 refine j9 48 Tryz.f21 ?_
 have T0 : Sm Nix h h := .refl
 refine z1 1 kr (q5 (q7 (z1 1 kr (L_i ((n : Int)) (0) (.bool false) rfl rfl kr kr rfl (by first | (simp; done) | (simp; omega)) (q5 (Q2 kr (z6 ?_)))))))
 refine z1 4 kr (L_p (.int .u64 (n : Int)) rfl (by rcases hn with rfl | rfl | rfl | rfl | rfl | rfl | rfl | rfl | rfl | rfl | rfl | rfl <;> kernel_rfl) (L_c rfl rfl kr (mul_ok hn) ?_))
 rintro v229 h229 ⟨e229, t229⟩
 try dsimp only at e229 t229
 subst e229
 have T229 := T0.ext t229
 have N229 := T229.nx
 have M229 := t229.nx
 refine L_g 5 kr (q5 (q7 (z1 4 kr (u9 kr (L_p (.bool false) rfl (by rcases hn with rfl | rfl | rfl | rfl | rfl | rfl | rfl | rfl | rfl | rfl | rfl | rfl <;> kernel_rfl) (L_g 1 kr (q5 (Q2 kr (z6 ?_)))))))))
 refine z1 1 kr (L_p (nv (n : Int)) rfl (by rcases hn with rfl | rfl | rfl | rfl | rfl | rfl | rfl | rfl | rfl | rfl | rfl | rfl <;> kernel_rfl) (Q1 (zrep n [nv 0]) (.sl n n) rfl rfl (ux9 (P := Tryz.prog) (k := 1) (el := 3) (z := nv 0) (by_ := 8) kr kr kr kr rfl (by omega) kr kr) fun h230 c230 t230 n230 => ?_))
 have T230 := T229.ext t230
 have N230 := T230.nx
 rw [jv0] at c230
 have hN30 : h.next ≤ h229.next := T229.nx
 refine L_g 1 kr (q5 (q7 (q6 (L_g 2 kr ?_))))
 obtain ⟨h231, e231, d231, t231, n231⟩ := yw1 (P := Tryz.prog) (T := 67) (el := 3) (x := nv c) (y := nv 0) (k := 0) (o := 0) (m := 1) (s := 1) (u := .slice (some ⟨b0, 0, none⟩) 1 1) kr kr c230 (Nat.zero_le _) rfl rfl (by rw [Nat.min_eq_left (by omega)]; exact ((hc0.ext T230).sd (n := 1) rfl).first) (by omega) (Nat.le_refl _) hn0 (by decide) (by omega) (by omega : n ≠ 0)
 refine V9 (nv (1 : Nat)) h231 rfl rfl kr (vs := [.slice (some ⟨h229.next, 0, none⟩) n n, .slice (some ⟨b0, 0, none⟩) 1 1]) kr (xg2 e231) ?_
 replace c230 := c230.lt
 have T231 : Sm Nix h h231 := T230.trans t231 (fun x hx => .inr (by have hx : x = _ := hx; omega))
 have N231 := T231.nx
 refine L_g 1 kr (q5 (q7 (u3 ?_)))
 refine J5 (fun mm fr hh => ∃ k : Nat, mm = n - k /\ 1 ≤ k /\ k ≤ n /\ Arm.Cl hh h229.next (row2 (nv c) (nv 0) k n) /\ Sm Nix h hh /\ fr 7 = .slice (some ⟨h229.next, 0, none⟩) n n /\ fr 8 = nv (k : Int)) (n - 1) ?_ ?_
 ·
  exact ⟨1, rfl, Nat.le_refl _, hn0, d231, T231, kr, kr⟩
 rintro mm fr hh ⟨k, hm, hk1, hkn, hcr, TL, y7, y8⟩
 refine j8 (k := 7) y7 (j8 (k := 8) y8 (q7 (z1 3 kr (L_i ((k : Int)) ((n : Int)) (.bool (decide ((k : Int) < (n : Int)))) rfl rfl kr kr rfl (rfl) (q5 ?_)))))
 refine Q0 (decide ((k : Int) < (n : Int))) kr (fun hb => ?_) (fun hb => ?_)
 ·
  have hlt : k < n := by simp at hb; omega
  refine z6 (u3 (u4 kr (D_e (e := 7) (l := [0,1,2,3,4,5,6]) (s' := [0]) kr kr rfl kr z4 (z2 3 kr (zy7 _ rfl rfl kr kr kr kr kr kr (slk_lo (b := h229.next) (P := Tryz.prog) (T := 67) (el := 3) kr kr hlt hop) (z2 2 kr (zy7 _ rfl rfl kr kr kr kr kr kr (slk_hi (b := h229.next) (P := Tryz.prog) (T := 67) (el := 3) kr kr hkn hn0 hop) (z5 ?_))))))))
  obtain ⟨h232, e232, hcq, t232, n232⟩ := yw1 (P := Tryz.prog) (T := 67) (el := 3) (x := nv c) (y := nv 0) (k := k) (o := k) (m := min k (n - k)) (s := k) (u := .slice (some ⟨h229.next, 0, none⟩) k n) kr kr hcr hkn rfl rfl (jj3 hcr hkn (Nat.min_le_left _ _) (by omega)) rfl (Nat.le_refl _) hlt hk1 (by omega) (by omega : n - k ≠ 0)
  have TQ : Sm Nix h h232 := TL.trans t232 (fun x hx => .inr (by have hx : x = _ := hx; omega))
  refine V9 (nv ((min k (n - k) : Nat) : Int)) h232 rfl rfl kr (vs := [.slice (some ⟨h229.next, k, none⟩) (n - k) (n - k), .slice (some ⟨h229.next, 0, none⟩) k n]) kr (xg2 e232) ?_
  have T232 : Sm Nix h h232 := TQ
  have N232 := T232.nx
  refine q5 ⟨rfl, ?_⟩
  refine D_l (l := [8,9]) kr kr (E0 kr) (J3 ((k : Int)) (((min k (n - k) : Nat) : Int)) (nv ((k + min k (n - k) : Nat) : Int)) rfl rfl kr kr kr kr rfl (Qu4 (by omega)) (z2 1 kr (z5 ?_)))
  exact ⟨n - (k + min k (n - k)), by omega, k + min k (n - k), rfl, by omega, by omega, hcq, TQ, kr, kr⟩
 ·
  have hge : k = n := by simp at hb; omega
  subst hge
  refine J8 ?_
  refine rx ?_
  refine Q7 (z1 2 kr (q5 (j7 ?_)))
  refine rr ?_
  refine z0 (v := .slice (some ⟨h229.next, 0, none⟩) k k) (.inl rfl) kr ?_
  exact ⟨_, hN30, by have := hcr; unfold row2 at this; rw [Nat.sub_self, List.replicate_zero, List.append_nil] at this; exact this, rfl, TL⟩
end
end Go.Proofs.YtjealfplbigphaaGreat
namespace Go.Arm
noncomputable section
open Go Go.X Go.Mt
section
variable {G : Gh} {h h' : AH} {S : Nat -> Prop} {r : Ro} {b : Nat} {v : Value} {x : Th}
theorem Op.putO (O : Op G h) (r : Ro) (b : Nat) (v : Value) (x : Th) (s : Sm S h h') (hS : ∀ c, S c -> (G.C r ≠ .no /\ vbx (G.V r) = some c) ∨ h.next ≤ c)
   (A : At h' ((G.put r b v x).V r) x) (hv : ∀ c, vbx ((G.put r b v x).V r) = some c -> (G.C r ≠ .no /\ vbx (G.V r) = some c) ∨ (¬ G.mut c /\ ¬ G.ro c)) :
   Op (G.put r b v x) h' /\ ∀ c, (G.put r b v x).mut c -> G.mut c ∨ vbx ((G.put r b v x).V r) = some c := by
 have hmu : ∀ c, (G.put r b v x).mut c -> G.mut c ∨ vbx ((G.put r b v x).V r) = some c := by
   rintro c ⟨r', h3, h4⟩
   by_cases e : r' = r
   . subst e; exact .inr h4
   . rw [F9 e] at h3; rw [qz0 e] at h4; exact .inl ⟨r', h3, h4⟩
 have hother : ∀ r', r' ≠ r -> ∀ c, G.C r' ≠ .no -> vbx (G.V r') = some c -> ¬ S c := fun r' hr c hc hb hs => by
   rcases hS c hs with ⟨e1, e2⟩ | e
   . exact hr (O.inj _ _ _ hc e1 hb e2)
   . exact O.new e ⟨r', hc, hb⟩
 refine ⟨⟨fun r' => ?_, fun r' r'' c h3 h4 h5 h6 => ?_, fun c hc hr => ?_, fun c hc => Nat.lt_of_lt_of_le (O.rolt c hc) s.nx⟩, hmu⟩
 . by_cases e : r' = r
   . subst e; rw [C_at]; exact A
   . rw [qz0 e, F9 e]
     by_cases e2 : G.C r' = .no
     . rw [e2]; trivial
     . exact (O.here r').sm s (fun c hb => hother r' e c e2 hb)
 . by_cases e : r' = r
   . by_cases e2 : r'' = r
     . rw [e, e2]
     . subst e
       rw [F9 e2] at h4; rw [qz0 e2] at h6
       rcases hv c h5 with q | q
       . exact O.inj _ _ _ q.1 h4 q.2 h6
       . exact (q.1 ⟨_, h4, h6⟩).elim
   . rw [F9 e] at h3; rw [qz0 e] at h5
     by_cases e2 : r'' = r
     . subst e2
       rcases hv c h6 with q | q
       . exact O.inj _ _ _ h3 q.1 h5 q.2
       . exact (q.1 ⟨_, h3, h5⟩).elim
     . rw [F9 e2] at h4; rw [qz0 e2] at h6
       exact O.inj _ _ _ h3 h4 h5 h6
 . rcases hmu c hc with q | q
   . exact O.ro c q hr
   . rcases hv c q with k | k
     . exact O.ro c ⟨r, k.1, k.2⟩ hr
     . exact k.2 hr
theorem Op.oS (O : Op G h) (r : Ro) (v : Value) (x : Th) (hV : ∀ G : Gh, G.V r = G.S r) (s : Sm S h h') (hS : ∀ c, S c -> (G.C r ≠ .no /\ vbx (G.S r) = some c) ∨ h.next ≤ c) (A : At h' v x) (hv : ∀ c, vbx v = some c -> (G.C r ≠ .no /\ vbx (G.S r) = some c) ∨ (¬ G.mut c /\ ¬ G.ro c)) :
  Op (G.putS r v x) h' /\ ∀ c, (G.putS r v x).mut c -> G.mut c ∨ vbx v = some c := by
 have e : (G.putS r v x).V r = v := by rw [hV]; exact j0 _ _ _
 have := O.putO r (G.B r) v x s (fun c hc => by rw [hV]; exact hS c hc) (by rw [qj4, e]; exact A) (fun c hc => by rw [qj4, e] at hc; rw [hV]; exact hv c hc)
 rw [qj4, e] at this
 exact this
theorem Op.oB (O : Op G h) (r : Ro) (b : Nat) (x : Th) (hV : vbx ((G.putB r b x).V r) = some b) (A : At h ((G.putB r b x).V r) x) (hv : ¬ G.mut b /\ ¬ G.ro b) :
  Op (G.putB r b x) h /\ ∀ c, (G.putB r b x).mut c -> G.mut c ∨ c = b := by
 have := O.putO (S := Nix) (h' := h) r b (G.S r) x .refl (fun c hc => hc.elim) (by rw [xv4]; exact A) (fun c hc => by rw [xv4, hV] at hc; cases hc; exact .inr hv)
 rw [xv4] at this
 exact ⟨this.1, fun c hc => (this.2 c hc).imp id fun e => by rw [hV] at e; cases e; rfl⟩
end
def pr0 (n : Nat) (c : Int) : Pr := ⟨1, [], [], [], [], [], List.replicate n c⟩
def rq0 : Rq := ⟨0, 0, 0, 0, 0, false, false, false, false, false, 0, 0, [], [], 0, [], false, St.z⟩
def Wd.new (n : Nat) (e c : Int) : Wd := ⟨e, n, fun _ => pr0 n c, fun _ _ => rq0, fun _ _ => []⟩
variable [Tys]
structure NewI (h0 h : AH) (G : Gh) (k n : Nat) (e c : Int) : Prop where
 op : Op G h
 mu : ∀ b, G.mut b -> h0.next ≤ b
 ro : ∀ b, ¬ G.ro b
 wd : G.C .wd = .cl [nv e, G.S .prs, .map (some (G.B .ways))]
 prs : G.C .prs = .gr 1 k ((List.range k).map fun p => ptr (G.B (.pr p)))
 ways : G.C .ways = .mp []
 way : ∀ a b, G.C (.way a b) = .gr 1 0 [] /\ G.S (.way a b) = nilS
 pr : ∀ p, p < k -> RelP (pr0 n c) (fun _ => rq0) G h p
 non : ∀ p no, G.C (.rq p no) = .no
 no : ∀ r p, r.of = some p -> k ≤ p -> G.C r = .no
section
variable {G : Gh} {h0 h h' h1 h2 : AH} {k n : Nat} {e c : Int}
theorem NewI.ext (N : NewI h0 h G k n e c) (s : Sm Nix h h') : NewI h0 h' G k n e c :=
 ⟨N.op.ext s, N.mu, N.ro, N.wd, N.prs, N.ways, N.way, fun p hp => (N.pr p hp).mono rfl rfl rfl (N.op.dr s.of), N.non, N.no⟩
theorem NewI.rep (N : NewI h0 h G n n e c) : ∃ G', Rep (Wd.new n e c) G' h /\ G'.B = G.B /\ ∀ b, G'.mut b ∨ G'.ro b -> h0.next ≤ b := by
 have hg := N.op.here .prs
 rw [N.prs] at hg
 obtain ⟨O, M⟩ := N.op.oS .prs (G.S .prs) (.sd 1 n ((List.range n).map fun p => ptr (G.B (.pr p)))) (fun _ => rfl) (Sm.refl (S := Nix)) (fun c hc => hc.elim) (Gr.sd hg) (fun c hc => .inl ⟨by rw [N.prs]; simp, hc⟩)
 refine ⟨_, ⟨O, ?_⟩, rfl, fun b hb => ?_⟩
 . refine ⟨?_, j0 G.C Ro.prs (.sd 1 n ((List.range n).map fun p => ptr (G.B (.pr p)))), ⟨[], N.ways, by simp, fun a b => ?_⟩, fun a b => ⟨[], (N.way a b).1, .nil⟩, fun p hp => ?_⟩
   . show G.C .wd = .cl [nv e, ups G.S .prs (G.S .prs) .prs, _]
     rw [j0]; exact N.wd
   . exact (N.way a b).2.symm
   . refine (N.pr p hp).congr (fun r hr => ⟨?_, ?_, rfl⟩) rfl
     . exact z7 _ _ (by intro h; rw [h] at hr; cases hr)
     . exact z7 _ _ (by intro h; rw [h] at hr; cases hr)
 . rcases hb with hb | hb
   . rcases M b hb with q | q
     . exact N.mu b q
     . exact N.mu b ⟨.prs, by rw [N.prs]; simp, q⟩
   . exact (N.ro b hb).elim
theorem NewI.start {bw bm : Nat} {e c : Int} (cw : Cl h bw [nv e, .slice none 0 0, .map (some bm)]) (mm : Mp h bm k2 Eq ([] : List ((Int × Int) × Value))) (mb : Mb h bm) (hw : h0.next ≤ bw) (hm : h0.next ≤ bm) (hne : bw ≠ bm) :
   ∃ G, NewI h0 h G 0 n e c /\ G.B .wd = bw := by
 refine ⟨⟨fun r => if r = .wd then bw else bm, fun _ => nilS, fun r => match r with | .wd => .cl [nv e, nilS, .map (some bm)] | .prs => .gr 1 0 [] | .ways => .mp [] | .way _ _ => .gr 1 0 [] | _ => .no, fun _ => False⟩, ?_, rfl⟩
 have hval : ∀ r b, (match r with | .wd => Th.cl [nv e, nilS, .map (some bm)] | .prs => .gr 1 0 [] | .ways => .mp [] | .way _ _ => .gr 1 0 [] | _ => .no) ≠ .no ->
     vbx (Gh.V ⟨fun r => if r = .wd then bw else bm, fun _ => nilS, fun r => match r with | .wd => .cl [nv e, nilS, .map (some bm)] | .prs => .gr 1 0 [] | .ways => .mp [] | .way _ _ => .gr 1 0 [] | _ => .no, fun _ => False⟩ r) = some b -> (r = .wd /\ b = bw) ∨ (r = .ways /\ b = bm) := by
   intro r b h1 h2
   cases r with
   | wd => cases h2; exact .inl ⟨rfl, rfl⟩
   | ways => cases h2; exact .inr ⟨rfl, rfl⟩
   | prs => cases h2
   | way a b => cases h2
   | _ => exact (h1 rfl).elim
 refine ⟨⟨fun r => ?_, fun r r' b h1 h2 h3 h4 => ?_, fun b hb => id, fun b hb => hb.elim⟩, fun b hb => ?_, fun b hb => hb, rfl, rfl, rfl, fun _ _ => ⟨rfl, rfl⟩, fun p hp => by omega, fun _ _ => rfl, fun r p hr _ => ?_⟩
 . cases r with
   | wd => exact ⟨bw, rfl, cw⟩
   | ways => exact ⟨bm, rfl, mm, mb⟩
   | prs => exact Gr.nil
   | way a b => exact Gr.nil
   | _ => trivial
 . rcases hval r b h1 h3 with ⟨rfl, rfl⟩ | ⟨rfl, rfl⟩ <;> rcases hval r' _ h2 h4 with ⟨rfl, e2⟩ | ⟨rfl, e2⟩
   . rfl
   . exact (hne e2).elim
   . exact (hne e2.symm).elim
   . rfl
 . obtain ⟨r, h1, h2⟩ := hb
   rcases hval r b h1 h2 with ⟨_, rfl⟩ | ⟨_, rfl⟩
   . exact hw
   . exact hm
 . cases r <;> first | rfl | cases hr
theorem NewI.step (N : NewI h0 h G k n e c) {bR bE bP bC : Nat} {hs : AH} (t0 : Sm Nix h hs) (hR : h.next ≤ bR) (hRE : bR < bE) (hEC : bE < bC) (hCP : bC < bP) (h00 : h0.next ≤ h.next)
   (mR : Mp hs bR nv Eq ([] : List (Int × Value))) (bRb : Mb hs bR) (mE : Mp hs bE k2 Eq ([] : List ((Int × Int) × Value))) (bEb : Mb hs bE) (cC : Cl hs bC ((List.replicate n c).map nv))
   (cP : Cl hs bP [nk 1, .map (some bR), .map (some bE), nilS, nilS, nilS, .slice (some ⟨bC, 0, none⟩) n n]) {v' : Value} {S : Nat -> Prop}
   (g : Gr h1 1 v' (k + 1) ((List.range k).map (fun p => ptr (G.B (.pr p))) ++ [ptr bP])) (t1 : Sm S hs h1) (hS : ∀ b, S b -> vb (G.S .prs) = some b ∨ hs.next ≤ b) (hv' : ∀ b, vb v' = some b -> vb (G.S .prs) = some b ∨ hs.next ≤ b)
   (cw : Cl h2 (G.B .wd) [nv e, v', .map (some (G.B .ways))]) (t2 : Sm (fun b => b = G.B .wd) h1 h2) : ∃ G', NewI h0 h2 G' (k + 1) n e c /\ G'.B .wd = G.B .wd := by
 have Ns := N.ext t0
 have hnew : ∀ b, h.next ≤ b -> ¬ G.mut b := fun b hb hm => by have := N.op.lt hm; omega
 obtain ⟨O1, M1⟩ := Ns.op.oB (.rqs k) bR (.mi []) (by show vbx (.map (some (ups _ _ _ _))) = _; rw [j0]; rfl) ⟨bR, by show Value.map (some (ups _ _ _ _)) = _; rw [j0], mR, bRb⟩ ⟨hnew _ hR, N.ro _⟩
 obtain ⟨O2, M2⟩ := O1.oB (.exs k) bE (.mp []) (by show vbx (.map (some (ups _ _ _ _))) = _; rw [j0]; rfl) ⟨bE, by show Value.map (some (ups _ _ _ _)) = _; rw [j0], mE, bEb⟩ ⟨fun hm => (M1 _ hm).elim (hnew bE (by omega)) (fun e => by omega), N.ro _⟩
 obtain ⟨O3, M3⟩ := O2.oS (.crd k) (.slice (some ⟨bC, 0, none⟩) n n) (.ws n ((List.replicate n c).map nv)) (fun _ => rfl) (Sm.refl (S := Nix)) (fun c hc => hc.elim) (cC.ws (by simp)) (fun d hd => by
   have ed : bC = d := Option.some.inj hd
   exact .inr ⟨fun hm => (M2 _ hm).elim (fun q => (M1 _ q).elim (hnew d (by omega)) (fun e => by omega)) (fun e => by omega), N.ro _⟩)
 obtain ⟨O4, M4⟩ := O3.oS (.inb k) nilS (.gr 2 0 []) (fun _ => rfl) (Sm.refl (S := Nix)) (fun c hc => hc.elim) Gr.nil (fun d hd => by cases hd)
 obtain ⟨O5, M5⟩ := O4.oS (.msg k) nilS (.gr 6 0 []) (fun _ => rfl) (Sm.refl (S := Nix)) (fun c hc => hc.elim) Gr.nil (fun d hd => by cases hd)
 obtain ⟨O6, M6⟩ := O5.oS (.rcv k) nilS (.gr 1 0 []) (fun _ => rfl) (Sm.refl (S := Nix)) (fun c hc => hc.elim) Gr.nil (fun d hd => by cases hd)
 have m6 : ∀ b, Gh.mut _ b -> G.mut b ∨ b = bR ∨ b = bE ∨ b = bC := fun b hm => by
   rcases M6 b hm with q | q
   . rcases M5 b q with q | q
     . rcases M4 b q with q | q
       . rcases M3 b q with q | q
         . rcases M2 b q with q | q
           . exact (M1 b q).imp id .inl
           . exact .inr (.inr (.inl q))
         . cases q; exact .inr (.inr (.inr rfl))
       . cases q
     . cases q
   . cases q
 obtain ⟨O7, M7⟩ := O6.oB (.pr k) bP (.cl [nk 1, .map (some bR), .map (some bE), nilS, nilS, nilS, .slice (some ⟨bC, 0, none⟩) n n]) (by show vbx (ptr (ups _ _ _ _)) = _; rw [j0]; rfl) ⟨bP, by show ptr (ups _ _ _ _) = _; rw [j0], cP⟩ ⟨fun hm => (m6 _ hm).elim (hnew bP (by omega)) (fun e => by omega), N.ro _⟩
 have hC : ∀ r, r.of ≠ some k -> ups (ups (ups (ups (ups (ups (ups G.C (.rqs k) (.mi [])) (.exs k) (.mp [])) (.crd k) (.ws n ((List.replicate n c).map nv))) (.inb k) (.gr 2 0 [])) (.msg k) (.gr 6 0 [])) (.rcv k) (.gr 1 0 [])) (.pr k) (.cl [nk 1, .map (some bR), .map (some bE), nilS, nilS, nilS, .slice (some ⟨bC, 0, none⟩) n n]) r = G.C r := fun r hr => by
   rw [z7 _ _ (K6 rfl hr), z7 _ _ (K6 rfl hr), z7 _ _ (K6 rfl hr), z7 _ _ (K6 rfl hr), z7 _ _ (K6 rfl hr), z7 _ _ (K6 rfl hr), z7 _ _ (K6 rfl hr)]
 have hp0 : ups (ups (ups (ups (ups (ups (ups G.C (.rqs k) (.mi [])) (.exs k) (.mp [])) (.crd k) (.ws n ((List.replicate n c).map nv))) (.inb k) (.gr 2 0 [])) (.msg k) (.gr 6 0 [])) (.rcv k) (.gr 1 0 [])) (.pr k) (.cl [nk 1, .map (some bR), .map (some bE), nilS, nilS, nilS, .slice (some ⟨bC, 0, none⟩) n n]) .prs ≠ .no := by rw [hC .prs (by simp [Ro.of]), N.prs]; simp
 have hw0 : ups (ups (ups (ups (ups (ups (ups (ups G.C (.rqs k) (.mi [])) (.exs k) (.mp [])) (.crd k) (.ws n ((List.replicate n c).map nv))) (.inb k) (.gr 2 0 [])) (.msg k) (.gr 6 0 [])) (.rcv k) (.gr 1 0 [])) (.pr k) (.cl [nk 1, .map (some bR), .map (some bE), nilS, nilS, nilS, .slice (some ⟨bC, 0, none⟩) n n])) .prs (.gr 1 (k + 1) ((List.range k).map (fun p => ptr (G.B (.pr p))) ++ [ptr bP])) .wd ≠ .no := by rw [z7 _ _ (by simp), hC .wd (by simp [Ro.of]), N.wd]; simp
 obtain ⟨O8, M8⟩ := O7.oS .prs v' (.gr 1 (k + 1) ((List.range k).map (fun p => ptr (G.B (.pr p))) ++ [ptr bP])) (fun _ => rfl) t1 (fun c hc => (hS c hc).imp (fun q => ⟨hp0, J4 q⟩) id) g (fun d hd => by
   have hd2 : vb v' = some d := zj4 (by obtain ⟨a, e, f⟩ := g.sd.form; exact ⟨a, _, e, f⟩) hd
   rcases hv' d hd2 with q | q
   . exact .inl ⟨hp0, J4 q⟩
   . exact .inr ⟨O7.new q, N.ro _⟩)
 obtain ⟨O9, M9⟩ := O8.putO .wd (G.B .wd) (G.S .wd) (.cl [nv e, v', .map (some (G.B .ways))]) t2 (fun d hd => .inl ⟨hw0, by subst hd; rfl⟩) ⟨G.B .wd, congrArg ptr (j0 (ups (ups (ups G.B (.rqs k) bR) (.exs k) bE) (.pr k) bP) Ro.wd (G.B .wd)), cw⟩
   (fun d hd => .inl ⟨hw0, by
     have hB0 : ups (ups (ups (ups G.B (.rqs k) bR) (.exs k) bE) (.pr k) bP) .wd (G.B .wd) .wd = G.B .wd := j0 _ _ _
     have h9 : ups (ups (ups (ups G.B (.rqs k) bR) (.exs k) bE) (.pr k) bP) .wd (G.B .wd) .wd = d := Option.some.inj hd
     exact congrArg some (hB0.symm.trans h9)⟩)
 have hCC : ∀ r p, r.of = some p -> p ≠ k -> (ups (ups (ups (ups (ups (ups (ups (ups (ups G.C (.rqs k) (.mi [])) (.exs k) (.mp [])) (.crd k) (.ws n ((List.replicate n c).map nv))) (.inb k) (.gr 2 0 [])) (.msg k) (.gr 6 0 [])) (.rcv k) (.gr 1 0 [])) (.pr k) (.cl [nk 1, .map (some bR), .map (some bE), nilS, nilS, nilS, .slice (some ⟨bC, 0, none⟩) n n])) .prs (.gr 1 (k + 1) ((List.range k).map (fun p => ptr (G.B (.pr p))) ++ [ptr bP]))) .wd (.cl [nv e, v', .map (some (G.B .ways))])) r = G.C r := fun r p hr hp => by
   have hk : r.of ≠ some k := by rw [hr]; simpa using hp
   rw [z7 _ _ (by intro h; rw [h] at hr; cases hr), z7 _ _ (by intro h; rw [h] at hr; cases hr), hC r hk]
 have hSS : ∀ r, r.of ≠ some k -> r ≠ .prs -> r ≠ .wd -> (ups (ups (ups (ups (ups (ups G.S (.crd k) (.slice (some ⟨bC, 0, none⟩) n n)) (.inb k) nilS) (.msg k) nilS) (.rcv k) nilS) .prs v') .wd (G.S .wd)) r = G.S r := fun r hk h1 h2 => by
   rw [z7 _ _ h2, z7 _ _ h1, z7 _ _ (K6 rfl hk), z7 _ _ (K6 rfl hk), z7 _ _ (K6 rfl hk), z7 _ _ (K6 rfl hk)]
 have hBB : ∀ r, r.of ≠ some k -> (ups (ups (ups (ups G.B (.rqs k) bR) (.exs k) bE) (.pr k) bP) .wd (G.B .wd)) r = G.B r := fun r hk => by
   by_cases e : r = .wd
   . subst e; exact j0 _ _ _
   . rw [z7 _ _ e, z7 _ _ (K6 rfl hk), z7 _ _ (K6 rfl hk), z7 _ _ (K6 rfl hk)]
 have hBk : (ups (ups (ups (ups G.B (.rqs k) bR) (.exs k) bE) (.pr k) bP) .wd (G.B .wd)) (.pr k) = bP := by rw [z7 _ _ (by simp), j0]
 have hSp : (ups (ups (ups (ups (ups (ups G.S (.crd k) (.slice (some ⟨bC, 0, none⟩) n n)) (.inb k) nilS) (.msg k) nilS) (.rcv k) nilS) .prs v') .wd (G.S .wd)) .prs = v' := by rw [z7 _ _ (by simp), j0]
 refine ⟨_, ⟨O9, fun b hb => ?_, N.ro, ?_, ?_, ?_, fun a b => ?_, fun p hp => ?_, fun p no => ?_, fun r p hr hkp => ?_⟩, hBB .wd (by simp [Ro.of])⟩
 . rcases M9 b hb with q | q
   . rcases M8 b q with q | q
     . rcases M7 b q with q | q
       . rcases m6 b q with q | q
         . exact N.mu b q
         . omega
       . omega
     . rcases hv' b (zj4 (by obtain ⟨a, e, f⟩ := g.sd.form; exact ⟨a, _, e, f⟩) q) with q | q
       . exact N.mu b ⟨.prs, by rw [N.prs]; simp, J4 q⟩
       . have := t0.nx; omega
   . have hB0 : ups (ups (ups (ups G.B (.rqs k) bR) (.exs k) bE) (.pr k) bP) .wd (G.B .wd) .wd = G.B .wd := j0 _ _ _
     have h9 : ups (ups (ups (ups G.B (.rqs k) bR) (.exs k) bE) (.pr k) bP) .wd (G.B .wd) .wd = b := Option.some.inj q
     exact N.mu b ⟨.wd, by rw [N.wd]; simp, congrArg some (hB0.symm.trans h9)⟩
 . show (ups (ups (ups (ups (ups (ups (ups (ups (ups G.C (.rqs k) (.mi [])) (.exs k) (.mp [])) (.crd k) (.ws n ((List.replicate n c).map nv))) (.inb k) (.gr 2 0 [])) (.msg k) (.gr 6 0 [])) (.rcv k) (.gr 1 0 [])) (.pr k) (.cl [nk 1, .map (some bR), .map (some bE), nilS, nilS, nilS, .slice (some ⟨bC, 0, none⟩) n n])) .prs (.gr 1 (k + 1) ((List.range k).map (fun p => ptr (G.B (.pr p))) ++ [ptr bP]))) .wd (.cl [nv e, v', .map (some (G.B .ways))])) .wd = .cl [nv e, (ups (ups (ups (ups (ups (ups G.S (.crd k) (.slice (some ⟨bC, 0, none⟩) n n)) (.inb k) nilS) (.msg k) nilS) (.rcv k) nilS) .prs v') .wd (G.S .wd)) .prs, .map (some ((ups (ups (ups (ups G.B (.rqs k) bR) (.exs k) bE) (.pr k) bP) .wd (G.B .wd)) .ways))]
   rw [hSp, hBB .ways (by simp [Ro.of]), j0]
 . show (ups (ups (ups (ups (ups (ups (ups (ups (ups G.C (.rqs k) (.mi [])) (.exs k) (.mp [])) (.crd k) (.ws n ((List.replicate n c).map nv))) (.inb k) (.gr 2 0 [])) (.msg k) (.gr 6 0 [])) (.rcv k) (.gr 1 0 [])) (.pr k) (.cl [nk 1, .map (some bR), .map (some bE), nilS, nilS, nilS, .slice (some ⟨bC, 0, none⟩) n n])) .prs (.gr 1 (k + 1) ((List.range k).map (fun p => ptr (G.B (.pr p))) ++ [ptr bP]))) .wd (.cl [nv e, v', .map (some (G.B .ways))])) .prs = .gr 1 (k + 1) ((List.range (k + 1)).map fun p => ptr ((ups (ups (ups (ups G.B (.rqs k) bR) (.exs k) bE) (.pr k) bP) .wd (G.B .wd)) (.pr p)))
   rw [z7 _ _ (show Ro.prs ≠ Ro.wd by simp), j0, List.range_succ, List.map_append]
   congr 2
   . refine List.map_congr_left fun p hp => ?_
     rw [hBB (.pr p) (by have := List.mem_range.1 hp; simp [Ro.of]; omega)]
   . show [ptr bP] = [ptr ((ups (ups (ups (ups G.B (.rqs k) bR) (.exs k) bE) (.pr k) bP) .wd (G.B .wd)) (.pr k))]
     rw [hBk]
 . show (ups (ups (ups (ups (ups (ups (ups (ups (ups G.C (.rqs k) (.mi [])) (.exs k) (.mp [])) (.crd k) (.ws n ((List.replicate n c).map nv))) (.inb k) (.gr 2 0 [])) (.msg k) (.gr 6 0 [])) (.rcv k) (.gr 1 0 [])) (.pr k) (.cl [nk 1, .map (some bR), .map (some bE), nilS, nilS, nilS, .slice (some ⟨bC, 0, none⟩) n n])) .prs (.gr 1 (k + 1) ((List.range k).map (fun p => ptr (G.B (.pr p))) ++ [ptr bP]))) .wd (.cl [nv e, v', .map (some (G.B .ways))])) .ways = _
   rw [z7 _ _ (show Ro.ways ≠ Ro.wd by simp), z7 _ _ (show Ro.ways ≠ Ro.prs by simp), hC .ways (by simp [Ro.of])]; exact N.ways
 . refine ⟨?_, ?_⟩
   . show (ups (ups (ups (ups (ups (ups (ups (ups (ups G.C (.rqs k) (.mi [])) (.exs k) (.mp [])) (.crd k) (.ws n ((List.replicate n c).map nv))) (.inb k) (.gr 2 0 [])) (.msg k) (.gr 6 0 [])) (.rcv k) (.gr 1 0 [])) (.pr k) (.cl [nk 1, .map (some bR), .map (some bE), nilS, nilS, nilS, .slice (some ⟨bC, 0, none⟩) n n])) .prs (.gr 1 (k + 1) ((List.range k).map (fun p => ptr (G.B (.pr p))) ++ [ptr bP]))) .wd (.cl [nv e, v', .map (some (G.B .ways))])) (.way a b) = _
     rw [z7 _ _ (show Ro.way a b ≠ Ro.wd by simp), z7 _ _ (show Ro.way a b ≠ Ro.prs by simp), hC (.way a b) (by simp [Ro.of])]; exact (N.way a b).1
   . show (ups (ups (ups (ups (ups (ups G.S (.crd k) (.slice (some ⟨bC, 0, none⟩) n n)) (.inb k) nilS) (.msg k) nilS) (.rcv k) nilS) .prs v') .wd (G.S .wd)) (.way a b) = _
     rw [hSS (.way a b) (by simp [Ro.of]) (by simp) (by simp)]; exact (N.way a b).2
 . by_cases epk : p = k
   . rw [epk]
     have hno : ∀ no, (ups (ups (ups (ups (ups (ups (ups (ups (ups G.C (.rqs k) (.mi [])) (.exs k) (.mp [])) (.crd k) (.ws n ((List.replicate n c).map nv))) (.inb k) (.gr 2 0 [])) (.msg k) (.gr 6 0 [])) (.rcv k) (.gr 1 0 [])) (.pr k) (.cl [nk 1, .map (some bR), .map (some bE), nilS, nilS, nilS, .slice (some ⟨bC, 0, none⟩) n n])) .prs (.gr 1 (k + 1) ((List.range k).map (fun p => ptr (G.B (.pr p))) ++ [ptr bP]))) .wd (.cl [nv e, v', .map (some (G.B .ways))])) (.rq k no) = .no := fun no => by
       rw [z7 _ _ (by simp), z7 _ _ (by simp), z7 _ _ (by simp), z7 _ _ (by simp), z7 _ _ (by simp), z7 _ _ (by simp), z7 _ _ (by simp), z7 _ _ (by simp), z7 _ _ (by simp)]
       exact N.non k no
     refine ⟨?_, ?_, fun _ hk => (List.not_mem_nil hk).elim, ?_, fun _ hk => (List.not_mem_nil hk).elim, ⟨[], ?_, .nil⟩, ⟨[], ?_, .nil⟩, ?_, fun _ hk => (List.not_mem_nil hk).elim, ?_, fun no hn => (hn (hno no)).elim, fun no hn => (hn (hno no)).elim, fun no hn => (hn (hno no)).elim, fun no hn => (hn (hno no)).elim⟩
     . show _ = Th.cl (prC _ _ k)
       simp [prC, Gh.put, Gh.putS, Gh.putB, ups, pr0]
     . simp [Gh.put, Gh.putS, Gh.putB, ups, pr0]
     . simp [Gh.put, Gh.putS, Gh.putB, ups, pr0]
     . simp [Gh.put, Gh.putS, Gh.putB, ups, pr0]
     . simp [Gh.put, Gh.putS, Gh.putB, ups, pr0]
     . simp [Gh.put, Gh.putS, Gh.putB, ups, pr0]
     . simp [Gh.put, Gh.putS, Gh.putB, ups, pr0]
   . have P : RelP (pr0 n c) (fun _ => rq0) G h2 p := (Ns.pr p (by omega)).mono (G' := G) rfl rfl rfl (fun v d H => ⟨H.1.sm ((t1.mono (S' := fun x => S x ∨ x = G.B .wd) fun _ => .inl).then (t2.mono fun _ => .inr)) (fun b hb _ => (N.ro b (H.2 b hb)).elim), H.2⟩)
     exact P.congr (fun r hr => ⟨hCC r p hr epk, hSS r (by rw [hr]; simpa using epk) (by intro h; rw [h] at hr; cases hr) (by intro h; rw [h] at hr; cases hr), hBB r (by rw [hr]; simpa using epk)⟩) rfl
 . have h1 : (ups (ups (ups (ups (ups (ups (ups (ups (ups G.C (.rqs k) (.mi [])) (.exs k) (.mp [])) (.crd k) (.ws n ((List.replicate n c).map nv))) (.inb k) (.gr 2 0 [])) (.msg k) (.gr 6 0 [])) (.rcv k) (.gr 1 0 [])) (.pr k) (.cl [nk 1, .map (some bR), .map (some bE), nilS, nilS, nilS, .slice (some ⟨bC, 0, none⟩) n n])) .prs (.gr 1 (k + 1) ((List.range k).map (fun p => ptr (G.B (.pr p))) ++ [ptr bP]))) .wd (.cl [nv e, v', .map (some (G.B .ways))])) (.rq p no) = G.C (.rq p no) := by
     rw [z7 _ _ (by simp), z7 _ _ (by simp), z7 _ _ (by simp), z7 _ _ (by simp), z7 _ _ (by simp), z7 _ _ (by simp), z7 _ _ (by simp), z7 _ _ (by simp), z7 _ _ (by simp)]
   exact h1.trans (N.non p no)
 . exact (hCC r p hr (by omega)).trans (N.no r p hr (by omega))
end
end
end Go.Arm
