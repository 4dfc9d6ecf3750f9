/- Worlds of the program and walks of its functions. -/
import Derived.Test.YtjealfplbigphaaGreatZk
import Derived.Test.YtjealfplbigphaaGreatZi
import Derived.Test.YtjealfplbigphaaGreatZj
namespace Go.Proofs.YtjealfplbigphaaGreat
noncomputable section
open Go Go.X Go.Arm Go.Mt
theorem yx7 {a b : Nat} (h : a * b < big) : IntKind.i64.wrap ((a : Int) * (b : Int)) = ((a * b : Nat) : Int) := by
 have h : a * b < 1000000000 := h
 rw [<- Int.natCast_mul, IntKind.wrap_i64]; omega
theorem xw0 {W : Wd} {G : Gh} {h : AH} {p no : Nat} {e : En} (R : Rep W G h) (hp : p < W.n) (hr : G.C (.rq p no) ≠ .no) (hps : (W.rq p no).small) :
  Arm.Calls Tryz.prog 82 [ptr (G.B (.rq p no)), .agg ⟨[nv e.src, nv e.ctx, nv e.tag, nv e.size, nv e.parts]⟩] h (fun r => r.1 = .bool ((W.rq p no).fits e) /\ Sm Nix h r.2) := by
 obtain ⟨dv0, hd0, c0⟩ := R.rqL hp hr
 replace c0 : Cl h (G.B (.rq p no)) (rqX (W.rq p no) dv0 (G.S (.pcs p no)) (G.S (.snt p no))) := c0
 refine j9 73 Tryz.f82 ?_
 have T0 : Sm Nix h h := .refl
 refine q7 (q6 (Q1 [nv e.src, nv e.ctx, nv e.tag, nv e.size, nv e.parts] .ptr rfl rfl kr fun h35 c35 t35 n35 => ?_))
 replace c0 := c0.ext t35
 have T35 := T0.ext t35
 have N35 := T35.nx
 refine L_g 1 kr (q5 ?_)
 refine zy0 (fun fr hh => fr 0 = ptr (G.B (.rq p no)) /\ fr 3 = ptr h.next /\ Sm Nix h hh /\ Cl hh h.next [nv e.src, nv e.ctx, nv e.tag, nv e.size, nv e.parts] /\ Cl hh (G.B (.rq p no)) (rqX (W.rq p no) dv0 (G.S (.pcs p no)) (G.S (.snt p no))) /\ (W.rq p no).fits e = (e.parts == (W.rq p no).parts && ((W.rq p no).parts == 0 || e.size == (((W.rq p no).parts * (W.rq p no).size : Nat) : Int)))) ?_ ?_
 ·
  refine u3 (q7 ?_)
  rcases (W.rq p no).fits_split e with hc | hc | hc | hc | hc | hc | hc | hc
  ·
   obtain ⟨hc1, hres⟩ := hc
   refine u4 kr (D_l (l := [0,1,2,3,4,5,6,7,8,9,10,11,12,13,14,15,16,17,18,19,20,21,22,23,24,25,26,27,28,29,30,31,32,33,34,35,36,37,38,39]) kr kr z4 (z2 1 kr (q9 _ rfl rfl kr kr kr (c35.ld (o := 1) kr rfl) (z2 3 kr (q9 _ rfl rfl kr kr kr (c0.ld (o := 2) kr rfl) (J3 (e.ctx) ((W.rq p no).ctx) (.bool true) rfl rfl kr kr kr kr rfl (by simp; omega) (z2 33 kr (z5 (U7 kr (q7 (q6 ?_)))))))))))
   refine L_g 1 kr (q5 (j7 ?_))
   refine rr ?_
   refine z0 (v := .bool false) (.inl rfl) kr ?_
   exact ⟨by rw [hres], T35⟩
  ·
   obtain ⟨hc1, hc2, hc3, hres⟩ := hc
   refine u4 kr (D_l (l := [0,1,2,3,4,5,6,7,8,9,10,11,12,13,14,15,16,17,18,19,20,21,22,23,24,25,26,27,28,29,30,31,32,33,34,35,36,37,38,39]) kr kr z4 (z2 1 kr (q9 _ rfl rfl kr kr kr (c35.ld (o := 1) kr rfl) (z2 3 kr (q9 _ rfl rfl kr kr kr (c0.ld (o := 2) kr rfl) (J3 (e.ctx) ((W.rq p no).ctx) (.bool false) rfl rfl kr kr kr kr rfl (by simp; omega) (z2 4 kr (q9 _ rfl rfl kr kr kr (c0.ld (o := 1) kr rfl) (J3 ((W.rq p no).peer) (-1) (.bool true) rfl rfl kr kr kr kr rfl (by simp; omega) (z2 4 kr (q9 _ rfl rfl kr kr kr (c0.ld (o := 1) kr rfl) ?_)))))))))))
   refine z2 1 kr (q9 _ rfl rfl kr kr kr (c35.ld (o := 0) kr rfl) (J3 ((W.rq p no).peer) (e.src) (.bool true) rfl rfl kr kr kr kr rfl (by simp; omega) (z2 19 kr (z5 (U7 kr (z1 1 kr (q5 (j7 ?_))))))))
   refine rr ?_
   refine z0 (v := .bool false) (.inl rfl) kr ?_
   exact ⟨by rw [hres], T35⟩
  ·
   obtain ⟨hc1, hc2, hc4, hc5, hres⟩ := hc
   refine u4 kr (D_l (l := [0,1,2,3,4,5,6,7,8,9,10,11,12,13,14,15,16,17,18,19,20,21,22,23,24,25,26,27,28,29,30,31,32,33,34,35,36,37,38,39]) kr kr z4 (z2 1 kr (q9 _ rfl rfl kr kr kr (c35.ld (o := 1) kr rfl) (z2 3 kr (q9 _ rfl rfl kr kr kr (c0.ld (o := 2) kr rfl) (J3 (e.ctx) ((W.rq p no).ctx) (.bool false) rfl rfl kr kr kr kr rfl (by simp; omega) (z2 4 kr (q9 _ rfl rfl kr kr kr (c0.ld (o := 1) kr rfl) (J3 ((W.rq p no).peer) (-1) (.bool false) rfl rfl kr kr kr kr rfl (by simp; omega) (z2 14 kr (q9 _ rfl rfl kr kr kr (c0.ld (o := 3) kr rfl) ?_)))))))))))
   refine J3 ((W.rq p no).tag) (-1) (.bool true) rfl rfl kr kr kr kr rfl (by simp; omega) (z2 4 kr (q9 _ rfl rfl kr kr kr (c0.ld (o := 3) kr rfl) (z2 1 kr (q9 _ rfl rfl kr kr kr (c35.ld (o := 2) kr rfl) (J3 ((W.rq p no).tag) (e.tag) (.bool true) rfl rfl kr kr kr kr rfl (by simp; omega) (z2 3 kr (z5 (U7 kr (q7 (q6 (L_g 1 kr ?_)))))))))))
   refine q5 (j7 ?_)
   refine rr ?_
   refine z0 (v := .bool false) (.inl rfl) kr ?_
   exact ⟨by rw [hres], T35⟩
  ·
   obtain ⟨hc1, hc2, hc3, hc4, hc5, hres⟩ := hc
   refine u4 kr (D_l (l := [0,1,2,3,4,5,6,7,8,9,10,11,12,13,14,15,16,17,18,19,20,21,22,23,24,25,26,27,28,29,30,31,32,33,34,35,36,37,38,39]) kr kr z4 (z2 1 kr (q9 _ rfl rfl kr kr kr (c35.ld (o := 1) kr rfl) (z2 3 kr (q9 _ rfl rfl kr kr kr (c0.ld (o := 2) kr rfl) (J3 (e.ctx) ((W.rq p no).ctx) (.bool false) rfl rfl kr kr kr kr rfl (by simp; omega) (z2 4 kr (q9 _ rfl rfl kr kr kr (c0.ld (o := 1) kr rfl) (J3 ((W.rq p no).peer) (-1) (.bool true) rfl rfl kr kr kr kr rfl (by simp; omega) (z2 4 kr (q9 _ rfl rfl kr kr kr (c0.ld (o := 1) kr rfl) ?_)))))))))))
   refine z2 1 kr (q9 _ rfl rfl kr kr kr (c35.ld (o := 0) kr rfl) (J3 ((W.rq p no).peer) (e.src) (.bool false) rfl rfl kr kr kr kr rfl (by simp; omega) (z2 6 kr (q9 _ rfl rfl kr kr kr (c0.ld (o := 3) kr rfl) (J3 ((W.rq p no).tag) (-1) (.bool true) rfl rfl kr kr kr kr rfl (by simp; omega) (z2 4 kr (q9 _ rfl rfl kr kr kr (c0.ld (o := 3) kr rfl) (z2 1 kr (q9 _ rfl rfl kr kr kr (c35.ld (o := 2) kr rfl) (J3 ((W.rq p no).tag) (e.tag) (.bool true) rfl rfl kr kr kr kr rfl (by simp; omega) (z2 3 kr ?_)))))))))))
   refine z5 (U7 kr (z1 1 kr (q5 (j7 ?_))))
   refine rr ?_
   refine z0 (v := .bool false) (.inl rfl) kr ?_
   exact ⟨by rw [hres], T35⟩
  ·
   obtain ⟨hc1, hc2, hc4, hres⟩ := hc
   refine u4 kr (D_l (l := [0,1,2,3,4,5,6,7,8,9,10,11,12,13,14,15,16,17,18,19,20,21,22,23,24,25,26,27,28,29,30,31,32,33,34,35,36,37,38,39]) kr kr z4 (z2 1 kr (q9 _ rfl rfl kr kr kr (c35.ld (o := 1) kr rfl) (z2 3 kr (q9 _ rfl rfl kr kr kr (c0.ld (o := 2) kr rfl) (J3 (e.ctx) ((W.rq p no).ctx) (.bool false) rfl rfl kr kr kr kr rfl (by simp; omega) (z2 4 kr (q9 _ rfl rfl kr kr kr (c0.ld (o := 1) kr rfl) (J3 ((W.rq p no).peer) (-1) (.bool false) rfl rfl kr kr kr kr rfl (by simp; omega) (z2 14 kr (q9 _ rfl rfl kr kr kr (c0.ld (o := 3) kr rfl) ?_)))))))))))
   refine J3 ((W.rq p no).tag) (-1) (.bool false) rfl rfl kr kr kr kr rfl (by simp; omega) (z2 11 kr (z5 (Q2 kr (z6 ?_))))
   exact ⟨by kernel_rfl, kr, T35, c35, c0, hres⟩
  ·
   obtain ⟨hc1, hc2, hc3, hc4, hres⟩ := hc
   refine u4 kr (D_l (l := [0,1,2,3,4,5,6,7,8,9,10,11,12,13,14,15,16,17,18,19,20,21,22,23,24,25,26,27,28,29,30,31,32,33,34,35,36,37,38,39]) kr kr z4 (z2 1 kr (q9 _ rfl rfl kr kr kr (c35.ld (o := 1) kr rfl) (z2 3 kr (q9 _ rfl rfl kr kr kr (c0.ld (o := 2) kr rfl) (J3 (e.ctx) ((W.rq p no).ctx) (.bool false) rfl rfl kr kr kr kr rfl (by simp; omega) (z2 4 kr (q9 _ rfl rfl kr kr kr (c0.ld (o := 1) kr rfl) (J3 ((W.rq p no).peer) (-1) (.bool true) rfl rfl kr kr kr kr rfl (by simp; omega) (z2 4 kr (q9 _ rfl rfl kr kr kr (c0.ld (o := 1) kr rfl) ?_)))))))))))
   refine z2 1 kr (q9 _ rfl rfl kr kr kr (c35.ld (o := 0) kr rfl) (J3 ((W.rq p no).peer) (e.src) (.bool false) rfl rfl kr kr kr kr rfl (by simp; omega) (z2 6 kr (q9 _ rfl rfl kr kr kr (c0.ld (o := 3) kr rfl) (J3 ((W.rq p no).tag) (-1) (.bool false) rfl rfl kr kr kr kr rfl (by simp; omega) (z2 11 kr (z5 (Q2 kr (z6 ?_)))))))))
   exact ⟨by kernel_rfl, kr, T35, c35, c0, hres⟩
  ·
   obtain ⟨hc1, hc2, hc4, hc5, hres⟩ := hc
   refine u4 kr (D_l (l := [0,1,2,3,4,5,6,7,8,9,10,11,12,13,14,15,16,17,18,19,20,21,22,23,24,25,26,27,28,29,30,31,32,33,34,35,36,37,38,39]) kr kr z4 (z2 1 kr (q9 _ rfl rfl kr kr kr (c35.ld (o := 1) kr rfl) (z2 3 kr (q9 _ rfl rfl kr kr kr (c0.ld (o := 2) kr rfl) (J3 (e.ctx) ((W.rq p no).ctx) (.bool false) rfl rfl kr kr kr kr rfl (by simp; omega) (z2 4 kr (q9 _ rfl rfl kr kr kr (c0.ld (o := 1) kr rfl) (J3 ((W.rq p no).peer) (-1) (.bool false) rfl rfl kr kr kr kr rfl (by simp; omega) (z2 14 kr (q9 _ rfl rfl kr kr kr (c0.ld (o := 3) kr rfl) ?_)))))))))))
   refine J3 ((W.rq p no).tag) (-1) (.bool true) rfl rfl kr kr kr kr rfl (by simp; omega) (z2 4 kr (q9 _ rfl rfl kr kr kr (c0.ld (o := 3) kr rfl) (z2 1 kr (q9 _ rfl rfl kr kr kr (c35.ld (o := 2) kr rfl) (J3 ((W.rq p no).tag) (e.tag) (.bool false) rfl rfl kr kr kr kr rfl (by simp; omega) (z2 3 kr (z5 (Q2 kr (z6 ?_)))))))))
   exact ⟨by kernel_rfl, kr, T35, c35, c0, hres⟩
  ·
   obtain ⟨hc1, hc2, hc3, hc4, hc5, hres⟩ := hc
   refine u4 kr (D_l (l := [0,1,2,3,4,5,6,7,8,9,10,11,12,13,14,15,16,17,18,19,20,21,22,23,24,25,26,27,28,29,30,31,32,33,34,35,36,37,38,39]) kr kr z4 (z2 1 kr (q9 _ rfl rfl kr kr kr (c35.ld (o := 1) kr rfl) (z2 3 kr (q9 _ rfl rfl kr kr kr (c0.ld (o := 2) kr rfl) (J3 (e.ctx) ((W.rq p no).ctx) (.bool false) rfl rfl kr kr kr kr rfl (by simp; omega) (z2 4 kr (q9 _ rfl rfl kr kr kr (c0.ld (o := 1) kr rfl) (J3 ((W.rq p no).peer) (-1) (.bool true) rfl rfl kr kr kr kr rfl (by simp; omega) (z2 4 kr (q9 _ rfl rfl kr kr kr (c0.ld (o := 1) kr rfl) ?_)))))))))))
   refine z2 1 kr (q9 _ rfl rfl kr kr kr (c35.ld (o := 0) kr rfl) (J3 ((W.rq p no).peer) (e.src) (.bool false) rfl rfl kr kr kr kr rfl (by simp; omega) (z2 6 kr (q9 _ rfl rfl kr kr kr (c0.ld (o := 3) kr rfl) (J3 ((W.rq p no).tag) (-1) (.bool true) rfl rfl kr kr kr kr rfl (by simp; omega) (z2 4 kr (q9 _ rfl rfl kr kr kr (c0.ld (o := 3) kr rfl) (z2 1 kr (q9 _ rfl rfl kr kr kr (c35.ld (o := 2) kr rfl) (J3 ((W.rq p no).tag) (e.tag) (.bool false) rfl rfl kr kr kr kr rfl (by simp; omega) (z2 3 kr ?_)))))))))))
   refine z5 (Q2 kr (z6 ?_))
   exact ⟨by kernel_rfl, kr, T35, c35, c0, hres⟩
 ·
  clear T0 c0
  rintro fr hh ⟨y0, y3, T0, c3, c0, hres⟩
  refine j8 (k := 0) y0 (j8 (k := 3) y3 (q7 ?_))
  by_cases hd1 : e.parts = (W.rq p no).parts
  by_cases hd2 : (W.rq p no).parts = 0
  ·
   refine u4 kr (D_l (l := [0,1,2,3,4,5,6,7,8,9,10,11,12,13,14,15,16,17,18,19,20,21,22,23,24,25,26,27,28]) kr kr z4 (z2 1 kr (q9 _ rfl rfl kr kr kr (c3.ld (o := 4) kr rfl) (z2 3 kr (q9 _ rfl rfl kr kr kr (c0.ld (o := 10) kr rfl) (J3 (e.parts) (((W.rq p no).parts : Int)) (.bool true) rfl rfl kr kr kr kr rfl (by simp; omega) (z2 4 kr (q9 _ rfl rfl kr kr kr (c0.ld (o := 10) kr rfl) (J3 (((W.rq p no).parts : Int)) (0) (.bool true) rfl rfl kr kr kr kr rfl (by simp; omega) (z2 16 kr (z5 ?_)))))))))))
   refine j7 ?_
   refine rr ?_
   refine z0 (v := .bool true) (.inl rfl) kr ?_
   exact ⟨by rw [hres]; simp [hd1, hd2], T0⟩
  ·
   refine u4 kr (D_l (l := [0,1,2,3,4,5,6,7,8,9,10,11,12,13,14,15,16,17,18,19,20,21,22,23,24,25,26,27,28]) kr kr z4 (z2 1 kr (q9 _ rfl rfl kr kr kr (c3.ld (o := 4) kr rfl) (z2 3 kr (q9 _ rfl rfl kr kr kr (c0.ld (o := 10) kr rfl) (J3 (e.parts) (((W.rq p no).parts : Int)) (.bool true) rfl rfl kr kr kr kr rfl (by simp; omega) (z2 4 kr (q9 _ rfl rfl kr kr kr (c0.ld (o := 10) kr rfl) (J3 (((W.rq p no).parts : Int)) (0) (.bool false) rfl rfl kr kr kr kr rfl (by simp; omega) (z2 2 kr (q9 _ rfl rfl kr kr kr (c3.ld (o := 3) kr rfl) ?_)))))))))))
   refine z2 3 kr (q9 _ rfl rfl kr kr kr (c0.ld (o := 10) kr rfl) (z2 3 kr (q9 _ rfl rfl kr kr kr (c0.ld (o := 11) kr rfl) (U8 (.int .i64 (IntKind.i64.wrap (((W.rq p no).parts : Int) * ((W.rq p no).size : Int)))) rfl kr rfl kr kr (J3 (e.size) (IntKind.i64.wrap (((W.rq p no).parts : Int) * ((W.rq p no).size : Int))) (.bool (e.size == IntKind.i64.wrap (((W.rq p no).parts : Int) * ((W.rq p no).size : Int)))) rfl rfl kr kr kr kr rfl (rfl) (z2 3 kr (z5 (j7 ?_))))))))
   refine rr ?_
   refine z0 (v := .bool (e.size == IntKind.i64.wrap (((W.rq p no).parts : Int) * ((W.rq p no).size : Int)))) (.inl rfl) kr ?_
   exact ⟨by rw [hres, yx7 hps]; simp [hd1, hd2], T0⟩
  ·
   refine u4 kr (D_l (l := [0,1,2,3,4,5,6,7,8,9,10,11,12,13,14,15,16,17,18,19,20,21,22,23,24,25,26,27,28]) kr kr z4 (z2 1 kr (q9 _ rfl rfl kr kr kr (c3.ld (o := 4) kr rfl) (z2 3 kr (q9 _ rfl rfl kr kr kr (c0.ld (o := 10) kr rfl) (J3 (e.parts) (((W.rq p no).parts : Int)) (.bool false) rfl rfl kr kr kr kr rfl (by simp; omega) (z2 22 kr (z5 (j7 ?_)))))))))
   refine rr ?_
   refine z0 (v := .bool false) (.inl rfl) kr ?_
   exact ⟨by rw [hres]; simp [hd1], T0⟩
end
end Go.Proofs.YtjealfplbigphaaGreat
namespace Go.Proofs.YtjealfplbigphaaGreat
noncomputable section
open Go Go.X Go.Arm Go.Mt
theorem xv5 {α : Type} {f : α -> Nat} (l : List α) : ∀ x, x ∈ l.map (fun k => ptr (f k)) -> x.oneCell' = true := by
 intro x hx
 obtain ⟨y, _, rfl⟩ := List.mem_map.1 hx
 rfl
theorem yy2b {P : Program} {n : Nat} {f : Fr} {h : AH} {k i : Nat} {T : TypeId} {a : Addr} {v u : Value} (hk : Nat.blt k n = true) (hi : Nat.blt i n = true) (hf : f k = .pointer (some a)) (hl : aLoad P T a h = some v) (h1 : f i = u) : evR P n f h [.cell k T, .tmp i] = some (.tuple ⟨[v, u]⟩) := by
 have e1 : evR1 P n f h (.cell k T) = some v := by unfold evR1; simp only [hk, hf]; exact hl
 have e2 : evR1 P n f h (.tmp i) = some u := by unfold evR1; simp only [hi, h1]
 unfold evR evRL evRL evRL
 rw [e1, e2]
theorem uu1 {W : Wd} {G : Gh} {h : AH} {p no mb : Nat} {e : En} {v : Value} (R : Rep W G h) (hp : p < W.n) (hr : G.C (.rq p no) ≠ .no) (hps : (W.rq p no).small) (c : Cl h mb [nv e.src, nv e.ctx, nv e.tag, nv e.size, nv e.parts, v]) :
  Arm.Calls Tryz.prog 125 [ptr (G.B (.rq p no)), ptr mb] h (fun r => r.1 = .bool ((W.rq p no).fits e) /\ Sm Nix h r.2) := by
 refine j9 8 Tryz.f125 ?_
 have T0 : Sm Nix h h := .refl
 refine z1 1 kr (q5 (z1 2 kr (z9 _ rfl rfl kr (Cl.ldS (k := 5) (o := 0) c kr (by simp)) (L_c rfl rfl kr (xw0 (e := e) (R.ext T0) hp hr hps) ?_))))
 rintro v36 h36 ⟨e36, t36⟩
 try dsimp only at e36 t36
 subst e36
 have T36 := T0.ext t36
 have N36 := T36.nx
 have M36 := t36.nx
 refine L_g 1 kr (q5 (j7 ?_))
 refine rr ?_
 refine z0 (v := .bool ((W.rq p no).fits e)) (.inl rfl) kr ?_
 exact ⟨rfl, T36⟩
theorem jk5 {W : Wd} {G : Gh} {h : AH} {p no rb : Nat} {e : En} {ty : TypeId} {u : Value} (R : Rep W G h) (hp : p < W.n) (hr : G.C (.rq p no) ≠ .no) (hps : (W.rq p no).small) (c : Cl h rb [ptr (G.B (.rq p no))]) :
  Arm.Calls Tryz.prog 81 [.agg ⟨[nv e.src, nv e.ctx, nv e.tag, nv e.size, nv e.parts, .iface ty u]⟩, ptr rb] h (fun r => r.1 = .bool ((W.rq p no).fits e) /\ Sm Nix h r.2) := by
 refine j9 8 Tryz.f81 ?_
 have T0 : Sm Nix h h := .refl
 refine q7 (q6 (Q1 [nv e.src, nv e.ctx, nv e.tag, nv e.size, nv e.parts, .iface ty u] .ptr rfl rfl kr fun h37 c37 t37 n37 => ?_))
 replace c := c.ext t37
 have T37 := T0.ext t37
 have N37 := T37.nx
 refine L_g 1 kr (q5 (q7 (q6 (z9 _ rfl rfl kr (c.ld (o := 0) kr rfl) (L_g 1 kr (z9 _ rfl rfl kr (Cl.ldS (k := 5) (o := 0) c37 kr (by simp)) (L_c rfl rfl kr (xw0 (e := e) (R.ext T37) hp hr hps) ?_)))))))
 rintro v38 h38 ⟨e38, t38⟩
 try dsimp only at e38 t38
 subst e38
 have T38 := T37.ext t38
 have N38 := T38.nx
 have M38 := t38.nx
 refine L_g 1 kr (q5 (j7 ?_))
 refine rr ?_
 refine z0 (v := .bool ((W.rq p no).fits e)) (.inl rfl) kr ?_
 exact ⟨rfl, T38⟩
theorem xq5 {W : Wd} {G : Gh} {h : AH} {p : Nat} {g : FuncId} {cap : Value} {pr : Nat -> Bool} (R : Rep W G h) (hp : p < W.n) (hl : (W.pr p).rcvs.length < big) (hg : ∀ vs h, aCallX Tryz.prog g vs h = some [(.enter g vs, h)]) (hc : ∀ x, x ∈ (W.pr p).rcvs -> ∀ h', Sm Nix h h' -> Arm.Calls Tryz.prog g [ptr (G.B (.rq p x)), cap] h' (fun r => r.1 = .bool (pr x) /\ Sm Nix h' r.2)) (hf : (W.pr p).rcvs.findIdx? pr = none) :
  Arm.Calls Tryz.prog 124 [.pointer (some ⟨G.B (.pr p), 5, none⟩), .func (.func g) ⟨[]⟩ ⟨[cap]⟩] h (fun r => r.1 = .tuple ⟨[.pointer none, .bool false]⟩ /\ Sm Nix h r.2) := by
 refine j9 38 Tryz.f124 ?_
 have T0 : Sm Nix h h := .refl
 refine z1 2 kr (q5 (z1 3 kr (z9 _ rfl rfl kr (((R.ext T0).prL hp).ld (o := 5) kr rfl) (L_g 1 kr ?_))))
 have hix := uy8 (pr := pr) (l := (W.pr p).rcvs) ((R.ext T0).rcv hp).sd hl hg (fun i x hx => ⟨_, by rw [List.getElem?_map, hx]; rfl, fun h' t => hc x (List.mem_of_getElem? hx) _ (T0.ext t)⟩)
 rw [hf] at hix
 refine L_c rfl rfl kr (hix) ?_
 rintro v39 h39 ⟨e39, t39⟩
 try dsimp only at e39 t39
 subst e39
 have T39 := T0.ext t39
 have N39 := T39.nx
 have M39 := t39.nx
 refine L_g 1 kr (q5 (q7 (z1 1 kr (L_i (-1) (0) (.bool true) rfl rfl kr kr rfl (by first | (simp; done) | (simp; omega)) (q5 (U7 kr (q7 (q6 (L_g 1 kr ?_)))))))))
 refine q5 (z1 3 kr (q5 (j7 ?_)))
 refine rr ?_
 refine z0 (v := .tuple ⟨[.pointer none, .bool false]⟩) (.inl rfl) kr ?_
 exact ⟨rfl, T39⟩
theorem uw6 {W : Wd} {G : Gh} {h : AH} {p i : Nat} {x : Nat} {g : FuncId} {cap : Value} {pr : Nat -> Bool} (R : Rep W G h) (hp : p < W.n) (hl : (W.pr p).rcvs.length < big) (hg : ∀ vs h, aCallX Tryz.prog g vs h = some [(.enter g vs, h)]) (hc : ∀ x, x ∈ (W.pr p).rcvs -> ∀ h', Sm Nix h h' -> Arm.Calls Tryz.prog g [ptr (G.B (.rq p x)), cap] h' (fun r => r.1 = .bool (pr x) /\ Sm Nix h' r.2)) (hf : (W.pr p).rcvs.findIdx? pr = some i) (hx : (W.pr p).rcvs[i]? = some x) :
  Arm.Calls Tryz.prog 124 [.pointer (some ⟨G.B (.pr p), 5, none⟩), .func (.func g) ⟨[]⟩ ⟨[cap]⟩] h (fun r => r.1 = .tuple ⟨[ptr (G.B (.rq p x)), .bool true]⟩ /\ Nxt (W.setPr p { W.pr p with rcvs := (W.pr p).rcvs.eraseIdx i }) G h r.2) := by
 have hlt : i < (W.pr p).rcvs.length := (List.getElem?_eq_some_iff.1 hx).1
 refine j9 38 Tryz.f124 ?_
 have T0 : Sm Nix h h := .refl
 refine z1 2 kr (q5 (z1 3 kr (z9 _ rfl rfl kr (((R.ext T0).prL hp).ld (o := 5) kr rfl) (L_g 1 kr ?_))))
 have hix := uy8 (pr := pr) (l := (W.pr p).rcvs) ((R.ext T0).rcv hp).sd hl hg (fun i x hx => ⟨_, by rw [List.getElem?_map, hx]; rfl, fun h' t => hc x (List.mem_of_getElem? hx) _ (T0.ext t)⟩)
 rw [hf] at hix
 refine L_c rfl rfl kr (hix) ?_
 rintro v40 h40 ⟨e40, t40⟩
 try dsimp only at e40 t40
 subst e40
 have T40 := T0.ext t40
 have N40 := T40.nx
 have M40 := t40.nx
 refine L_g 1 kr (q5 (q7 (z1 1 kr (L_i ((i : Int)) (0) (.bool false) rfl rfl kr kr rfl (by first | (simp; done) | (simp; omega)) (q5 (Q2 kr (z6 (q7 (q6 ?_)))))))))
 refine L_g 3 kr (z9 _ rfl rfl kr (((R.ext T40).prL hp).ld (o := 5) kr rfl) (L_g 1 kr ?_))
 obtain ⟨b9, o9, _, i9, l9⟩ := ((R.ext T40).rcv hp).sd.at (P := Tryz.prog) (T := 73) (el := 100) kr kr hlt .i64
 refine Z8 _ rfl rfl kr kr (i9) ?_
 refine z9 _ rfl rfl kr (K5 kr (by have := l9 0 (by decide); rw [Nat.add_zero, Nat.mul_one, Nat.add_zero, List.getElem?_map, hx] at this; exact this)) ?_
 refine L_g 1 kr (q5 (z1 4 kr (z9 _ rfl rfl kr (((R.ext T40).prL hp).ld (o := 5) kr rfl) (L_c rfl rfl kr (uu2 ((R.ext T40).rcv hp).sd (xv5 _) hl) ?_))))
 rintro v41 h41 ⟨g41, t41, f41⟩
 dsimp only at g41 t41 f41
 obtain ⟨bq, oq, cq, nq, rfl, q1, q2, q3, q4⟩ := g41.open (by omega)
 have hbq : h.next ≤ bq := Nat.le_trans T40.nx (f41 bq rfl)
 have T41 := T40.ext t41
 have N41 := T41.nx
 refine L_g 2 kr (L_i ((i : Int)) (1) (nv ((i + 1 : Nat) : Int)) rfl rfl kr kr rfl (Z4 (by have : (W.pr p).rcvs.length < 1000000000 := hl; omega)) (L_c rfl rfl kr (del_rq q2 q1 g41.1 q3 q4 (xv5 _) hlt hl) ?_))
 rintro v42 h42 ⟨e42, g42, t42⟩
 dsimp only at e42 g42 t42
 subst e42
 have hlen : ((W.pr p).rcvs.eraseIdx i).length = (W.pr p).rcvs.length - 1 := List.length_eraseIdx_of_lt hlt
 rw [<- hlen, jj6] at g42
 have T42 : Sm Nix h h42 := T41.trans t42 (fun x hx => .inr (by have hx : x = bq := hx; omega))
 have N42 := T42.nx
 refine L_g 2 kr ?_
 obtain ⟨h43, e43, d43, t43, n43⟩ := ((R.ext T42).prL hp).store (P := Tryz.prog) (T := 73) (o := 5) (v := (.slice (some ⟨bq, oq, none⟩) ((W.pr p).rcvs.length - 1) u7)) kr rfl rfl (by simp [prC])
 have hpl := R.prLt hp
 have d2 := d43
 rw [<- hlen] at d2
 have hN : Nxt (W.setPr p { W.pr p with rcvs := (W.pr p).rcvs.eraseIdx i }) G h h43 := R.setRcv hp (fun k hk => (R.rel.pr p hp).rcp k (List.mem_of_mem_eraseIdx hk)) g42 T42 (fun c hc => hc.elim) (fun c hc => by cases hc; exact .inr hbq) d2 t43
 refine Q3 _ rfl rfl rfl kr kr (e43) ?_
 have T43 : Sm Nix h43 h43 := .refl
 refine q5 (z1 3 kr (q5 (j7 ?_)))
 refine rr ?_
 refine z0 (v := .tuple ⟨[ptr (G.B (.rq p x)), .bool true]⟩) (.inl rfl) kr ?_
 exact ⟨rfl, hN⟩
end
end Go.Proofs.YtjealfplbigphaaGreat
namespace Go.Proofs.YtjealfplbigphaaGreat
noncomputable section
open Go Go.X Go.Arm Go.Mt
theorem xq6 {W : Wd} {G : Gh} {h : AH} {p : Nat} {g : FuncId} {cap : Value} {pr : Ms -> Bool} (R : Rep W G h) (hp : p < W.n) (hl : (W.pr p).msgs.length < big) (hg : ∀ vs h, aCallX Tryz.prog g vs h = some [(.enter g vs, h)]) (hc : ∀ (x : Ms) v, MsV h G.ro v x -> ∀ h', Sm Nix h h' -> Arm.Calls Tryz.prog g [.agg ⟨[nv x.en.src, nv x.en.ctx, nv x.en.tag, nv x.en.size, nv x.en.parts, v]⟩, cap] h' (fun r => r.1 = .bool (pr x) /\ Sm Nix h' r.2)) (hf : (W.pr p).msgs.findIdx? pr = none) :
  Arm.Calls Tryz.prog 80 [.pointer (some ⟨G.B (.pr p), 4, none⟩), .func (.func g) ⟨[]⟩ ⟨[cap]⟩] h (fun r => r.1 = .tuple ⟨[.agg ⟨[.int .i64 0, .int .i64 0, .int .i64 0, .int .i64 0, .int .i64 0, .nilIface]⟩, .bool false]⟩ /\ Sm Nix h r.2) := by
 obtain ⟨cs, g0, ls⟩ := R.msg hp
 have h1 := ls.oneMs
 refine j9 38 Tryz.f80 ?_
 have T0 : Sm Nix h h := .refl
 refine q7 (q6 (Q1 [nv 0, nv 0, nv 0, nv 0, nv 0, .nilIface] .ptr rfl rfl kr fun h44 c44 t44 n44 => ?_))
 have T44 := T0.ext t44
 have N44 := T44.nx
 refine L_g 1 kr (q5 (z1 3 kr (z9 _ rfl rfl kr (((R.ext T44).prL hp).ld (o := 4) kr rfl) (L_g 1 kr ?_))))
 have hix := uy9 (pr := pr) (l := (W.pr p).msgs) (g0.sd.ext T44) hl hg (fun i x hx => by
  obtain ⟨c, ⟨v, hv, rfl⟩, hcl, hcc⟩ := ls.get hx
  exact ⟨_, rfl, hcc, fun h' t => hc x v hv _ (T44.ext t)⟩)
 rw [hf] at hix
 refine L_c rfl rfl kr (hix) ?_
 rintro v45 h45 ⟨e45, t45⟩
 try dsimp only at e45 t45
 subst e45
 replace c44 := c44.ext t45
 have T45 := T44.ext t45
 have N45 := T45.nx
 have M45 := t45.nx
 refine L_g 1 kr (q5 (q7 (z1 1 kr (L_i (-1) (0) (.bool true) rfl rfl kr kr rfl (by first | (simp; done) | (simp; omega)) (q5 (U7 kr (q7 (q6 (Q1 [nv 0, nv 0, nv 0, nv 0, nv 0, .nilIface] .ptr rfl rfl kr fun h46 c46 t46 n46 => ?_)))))))))
 replace c44 := c44.ext t46
 have T46 := T45.ext t46
 have N46 := T46.nx
 refine q5 (q7 (q6 (z9 _ rfl rfl kr (Cl.allN (n := 6) c46 rfl kr) ?_)))
 obtain ⟨h47, e47, d47, t47, n47⟩ := c44.sA 160 [.int .i64 0, .int .i64 0, .int .i64 0, .int .i64 0, .int .i64 0, .nilIface]
 replace c44 := d47
 have T47 := T46.tr t47
 have N47 := T47.nx
 refine Q3 _ rfl rfl rfl kr kr (e47) (L_g 1 kr (q5 (j7 ?_)))
 refine rr ?_
 refine z0 (.inl rfl) (yy2b kr kr (a := ⟨h.next, 0, none⟩) kr (Cl.allN (n := 6) c44 rfl kr) (u := .bool false) kr) ?_
 exact ⟨rfl, T47⟩
theorem uw7 {W : Wd} {G : Gh} {h : AH} {p i : Nat} {x : Ms} {g : FuncId} {cap : Value} {pr : Ms -> Bool} (R : Rep W G h) (hp : p < W.n) (hl : (W.pr p).msgs.length < big) (hg : ∀ vs h, aCallX Tryz.prog g vs h = some [(.enter g vs, h)]) (hc : ∀ (x : Ms) v, MsV h G.ro v x -> ∀ h', Sm Nix h h' -> Arm.Calls Tryz.prog g [.agg ⟨[nv x.en.src, nv x.en.ctx, nv x.en.tag, nv x.en.size, nv x.en.parts, v]⟩, cap] h' (fun r => r.1 = .bool (pr x) /\ Sm Nix h' r.2)) (hf : (W.pr p).msgs.findIdx? pr = some i) (hx : (W.pr p).msgs[i]? = some x) :
  Arm.Calls Tryz.prog 80 [.pointer (some ⟨G.B (.pr p), 4, none⟩), .func (.func g) ⟨[]⟩ ⟨[cap]⟩] h (fun r => ∃ v, MsV h G.ro v x /\ r.1 = .tuple ⟨[.agg ⟨[nv x.en.src, nv x.en.ctx, nv x.en.tag, nv x.en.size, nv x.en.parts, v]⟩, .bool true]⟩ /\ Nxt (W.setPr p { W.pr p with msgs := (W.pr p).msgs.eraseIdx i }) G h r.2) := by
 obtain ⟨cs, g0, ls⟩ := R.msg hp
 have h1 := ls.oneMs
 have hlt : i < (W.pr p).msgs.length := (List.getElem?_eq_some_iff.1 hx).1
 obtain ⟨c, ⟨v, hv, hce⟩, hcl, hcc⟩ := ls.get hx
 obtain ⟨ty, u, hvi⟩ := hv.iface
 subst hvi
 subst hce
 refine j9 38 Tryz.f80 ?_
 have T0 : Sm Nix h h := .refl
 refine q7 (q6 (Q1 [nv 0, nv 0, nv 0, nv 0, nv 0, .nilIface] .ptr rfl rfl kr fun h48 c48 t48 n48 => ?_))
 have T48 := T0.ext t48
 have N48 := T48.nx
 refine L_g 1 kr (q5 (z1 3 kr (z9 _ rfl rfl kr (((R.ext T48).prL hp).ld (o := 4) kr rfl) (L_g 1 kr ?_))))
 have hix := uy9 (pr := pr) (l := (W.pr p).msgs) (g0.sd.ext T48) hl hg (fun i x hx => by
  obtain ⟨c, ⟨v, hv, rfl⟩, hcl, hcc⟩ := ls.get hx
  exact ⟨_, rfl, hcc, fun h' t => hc x v hv _ (T48.ext t)⟩)
 rw [hf] at hix
 refine L_c rfl rfl kr (hix) ?_
 rintro v49 h49 ⟨e49, t49⟩
 try dsimp only at e49 t49
 subst e49
 replace c48 := c48.ext t49
 have T49 := T48.ext t49
 have N49 := T49.nx
 have M49 := t49.nx
 refine L_g 1 kr (q5 (q7 (z1 1 kr (L_i ((i : Int)) (0) (.bool false) rfl rfl kr kr rfl (by first | (simp; done) | (simp; omega)) (q5 (Q2 kr (z6 (q7 (q6 ?_)))))))))
 refine L_g 3 kr (z9 _ rfl rfl kr (((R.ext T49).prL hp).ld (o := 4) kr rfl) (L_g 1 kr ?_))
 obtain ⟨b9, o9, _, i9, l9⟩ := (g0.sd.ext T49).at (P := Tryz.prog) (T := 70) (el := 160) kr kr hlt .i64
 refine Z8 _ rfl rfl kr kr (i9) (z9 _ rfl rfl kr (zk6 (l := [nv x.en.src, nv x.en.ctx, nv x.en.tag, nv x.en.size, nv x.en.parts, .iface ty u]) kr (fun j hj => by rw [l9 j hj]; exact hcc j hj)) (Q1 [nv 0, nv 0, nv 0, nv 0, nv 0, .nilIface] .ptr rfl rfl kr fun h50 c50 t50 n50 => ?_))
 replace c48 := c48.ext t50
 have T50 := T49.ext t50
 have N50 := T50.nx
 obtain ⟨h51, e51, d51, t51, n51⟩ := c50.sA 160 [nv x.en.src, nv x.en.ctx, nv x.en.tag, nv x.en.size, nv x.en.parts, .iface ty u]
 replace c48 := c48.sn t51
 replace c50 := d51
 have T51 := T50.tr t51
 have N51 := T51.nx
 refine Q3 _ rfl rfl rfl kr kr (e51) (q5 (z1 4 kr (z9 _ rfl rfl kr (((R.ext T51).prL hp).ld (o := 4) kr rfl) (L_c rfl rfl kr (uu3 (g0.sd.ext T51) h1 hl) ?_))))
 have Rb := (R.ext T51)
 have l4 := c48.lt
 have l8 := c50.lt
 rintro v52 h52 ⟨g52, t52, f52⟩
 dsimp only at g52 t52 f52
 obtain ⟨bq, oq, cq, nq, rfl, q1, q2, q3, q4⟩ := g52.open (by omega)
 have hbq : h51.next ≤ bq := f52 bq rfl
 replace c48 := c48.ext t52
 replace c50 := c50.ext t52
 have T52 : Sm Nix h51 h52 := t52
 have N52 := T52.nx
 refine L_g 2 kr (L_i ((i : Int)) (1) (nv ((i + 1 : Nat) : Int)) rfl rfl kr kr rfl (Z4 (by have : (W.pr p).msgs.length < 1000000000 := hl; omega)) (L_c rfl rfl kr (del_ms q2 q1 g52.1 q3 q4 h1 hlt hl) ?_))
 rintro v53 h53 ⟨e53, g53, t53⟩
 dsimp only at e53 g53 t53
 subst e53
 have hlen : ((W.pr p).msgs.eraseIdx i).length = (W.pr p).msgs.length - 1 := List.length_eraseIdx_of_lt hlt
 rw [<- hlen] at g53
 have ls2 := (ls.erase i hlt).mono fun _ _ z => z.mono (R.op.dr (T51).of)
 replace c48 := c48.sn t53
 replace c50 := c50.sn t53
 have T53 : Sm Nix h51 h53 := T52.trans t53 (fun x hx => .inr (by have hx : x = bq := hx; omega))
 have N53 := T53.nx
 refine L_g 2 kr ?_
 obtain ⟨h54, e54, d54, t54, n54⟩ := ((Rb.ext T53).prL hp).store (P := Tryz.prog) (T := 70) (o := 4) (v := (.slice (some ⟨bq, oq, none⟩) ((W.pr p).msgs.length - 1) u7)) kr rfl rfl (by simp [prC])
 have hpl := R.prLt hp
 have d2 := d54
 rw [<- hlen] at d2
 have hN : Nxt (W.setPr p { W.pr p with msgs := (W.pr p).msgs.eraseIdx i }) G h51 h54 := Rb.setMsg hp ls2 g53 T53 (fun c hc => hc.elim) (fun c hc => by cases hc; exact .inr hbq) d2 t54
 refine Q3 _ rfl rfl rfl kr kr (e54) ?_
 replace c48 := c48.sn t54
 replace c50 := c50.sn t54
 obtain ⟨S9, C9, ro9, R9, Y9⟩ := hN
 have m4 : ¬ (Gh.mut ⟨G.B, S9, C9, ro9⟩) (h.next) /\ ¬ (Gh.ro ⟨G.B, S9, C9, ro9⟩) (h.next) := ⟨fun hm => (Y9.mu _ hm).elim (R.op.new (by omega)) (fun e => by omega), fun hm => (Y9.ron _ hm).elim (R.op.newr (by omega)) (fun e => by omega)⟩
 have X9 := (Gx.of T51).trans Y9
 have T9 : Sm (Ow h ⟨G.B, S9, C9, ro9⟩) h54 h54 := .refl
 have N9 := T9.nx
 refine q5 (q7 (q6 (z9 _ rfl rfl kr (Cl.allN (n := 6) c50 rfl kr) ?_)))
 obtain ⟨h55, e55, d55, t55, n55⟩ := c48.sA 160 [nv x.en.src, nv x.en.ctx, nv x.en.tag, nv x.en.size, nv x.en.parts, .iface ty u]
 replace c48 := d55
 have T55 : Sm (Ow h ⟨G.B, S9, C9, ro9⟩) h54 h55 := T9.trans t55 (fun x hx => by have hx : x = h.next := hx; subst hx; first | exact .inr (by omega) | exact .inl ⟨by omega, m4.1, m4.2⟩ | exact .inl rfl)
 have N55 := T55.nx
 refine Q3 _ rfl rfl rfl kr kr (e55) (L_g 1 kr (q5 (j7 ?_)))
 refine rr ?_
 refine z0 (.inl rfl) (yy2b kr kr (a := ⟨h.next, 0, none⟩) kr (Cl.allN (n := 6) c48 rfl kr) (u := .bool true) kr) ?_
 exact ⟨_, hv, rfl, S9, C9, ro9, R9.ow T55, X9.ow T55⟩
end
end Go.Proofs.YtjealfplbigphaaGreat
namespace Go.Proofs.YtjealfplbigphaaGreat
noncomputable section
open Go Go.X Go.Arm Go.Mt
theorem xj1 {h : AH} {b : Nat} {cs : List Value} (k : Nat) (hc : Arm.Cl h b cs) (hn : cs.length = k) : Sd h k (.slice (some ⟨b, 0, none⟩) 1 1) 1 cs := by
 obtain ⟨h1, c, op, h2, h3⟩ := hc
 exact ⟨by omega, .inr ⟨b, 0, 1, c, cs.length, op, false, by decide, by decide, rfl, h1, h2, by omega, fun j hj => by rw [Nat.zero_add]; exact h3 j hj⟩⟩
theorem Qq9 {W : Wd} {G : Gh} {h : AH} {p no : Nat} (R : Rep W G h) (hp : p < W.n) (hr : G.C (.rq p no) ≠ .no) (hl : (W.pr p).rcvs.length < big) :
  Arm.Calls Tryz.prog 84 [.pointer (some ⟨G.B (.pr p), 5, none⟩), ptr (G.B (.rq p no))] h (fun r => Nxt (W.setPr p { W.pr p with rcvs := (W.pr p).rcvs ++ [no] }) G h r.2) := by
 have hl : (W.pr p).rcvs.length < 1000000000 := hl
 refine j9 14 Tryz.f84 ?_
 have T0 : Sm Nix h h := .refl
 refine Z3 4 kr (z9 _ rfl rfl kr (((R.ext T0).prL hp).ld (o := 5) kr rfl) (L_g 1 kr (Q1 [ptr (G.B (.rq p no))] (.sl 1 1) rfl rfl kr fun h56 c56 t56 n56 => ?_)))
 have T56 := T0.ext t56
 have N56 := T56.nx
 have g0 := (R.ext T56).rcv hp
 obtain ⟨v57, h57, e57, g57, t57, f57⟩ := g0.append (P := Tryz.prog) (sT := 73) (xT := 73) (el := 100) (by_ := 8) (z := .pointer none) (m := 1) (ds := [ptr (G.B (.rq p no))]) kr kr kr kr kr rfl (by decide) (c56.sd rfl) (List.all_eq_true.1 rfl) (by omega)
 obtain ⟨va, vc, rfl⟩ := g57.sd.form
 refine V9 (.slice va ((W.pr p).rcvs.length + 1) vc) h57 rfl rfl kr (vs := [G.S (.rcv p), .slice (some ⟨h.next, 0, none⟩) 1 1]) kr (J7 e57) ?_
 replace c56 := c56.lt
 have T57 : Sm (fun c => vb (G.S (.rcv p)) = some c) h56 h57 := t57
 have N57 := T57.nx
 refine L_g 2 kr ?_
 have Rb := R.ext T56
 have hnw : ¬ vb (G.S (.rcv p)) = some (G.B (.pr p)) := fun e => Rb.op.ne (r := .rcv p) (r' := .pr p) (by rw [(Rb.rel.pr p hp).rcv]; simp) (by rw [(Rb.rel.pr p hp).pr]; simp) (by simp) (J4 e) rfl
 obtain ⟨h58, e58, d58, t58, n58⟩ := ((Rb.prL hp).sm T57 hnw).store (P := Tryz.prog) (T := 73) (o := 5) (v := .slice va ((W.pr p).rcvs.length + 1) vc) kr rfl rfl (by simp [prC])
 have hlen : ((W.pr p).rcvs ++ [no]).length = (W.pr p).rcvs.length + 1 := by simp
 rw [<- hlen] at d58
 have hN : Nxt (W.setPr p { W.pr p with rcvs := (W.pr p).rcvs ++ [no] }) G h56 h58 := Rb.setRcv hp (fun k hk => by rcases List.mem_append.1 hk with hk | hk; exact (R.rel.pr p hp).rcp k hk; cases List.mem_singleton.1 hk; exact hr) (by rw [hlen]; rw [List.map_append]; exact g57) T57 (fun c hc => .inl hc) (fun c hc => by rw [hlen] at hc; exact f57 c hc) d58 t58
 refine Q3 _ rfl rfl rfl kr kr (e58) ?_
 have T58 : Sm Nix h58 h58 := .refl
 refine q5 ?_
 repeat with_reducible refine Q9 ?_
 refine z0 (v := .tuple ⟨[]⟩) (.inr rfl) kr ?_
 exact Nxt.pre T56 hN
theorem Qz0 {W : Wd} {G : Gh} {h : AH} {p : Nat} {m : Ms} {ty : TypeId} {u : Value} (R : Rep W G h) (hp : p < W.n) (hv : MsV h G.ro (.iface ty u) m) (hl : (W.pr p).msgs.length < big) :
  Arm.Calls Tryz.prog 126 [.pointer (some ⟨G.B (.pr p), 4, none⟩), .agg ⟨[nv m.en.src, nv m.en.ctx, nv m.en.tag, nv m.en.size, nv m.en.parts, .iface ty u]⟩] h (fun r => Nxt (W.setPr p { W.pr p with msgs := (W.pr p).msgs ++ [m] }) G h r.2) := by
 have hl : (W.pr p).msgs.length < 1000000000 := hl
 refine j9 14 Tryz.f126 ?_
 have T0 : Sm Nix h h := .refl
 refine q7 (q6 (Q1 [nv m.en.src, nv m.en.ctx, nv m.en.tag, nv m.en.size, nv m.en.parts, .iface ty u] .ptr rfl rfl kr fun h59 c59 t59 n59 => ?_))
 have T59 := T0.ext t59
 have N59 := T59.nx
 refine q5 (u4 kr (D_e (e := 7) (l := [0,1,2,3,4,5,6]) (s' := [0]) kr kr rfl kr z4 (z2 4 kr (q9 _ rfl rfl kr kr kr (((R.ext T59).prL hp).ld (o := 4) kr rfl) (q9 _ rfl rfl kr kr kr (Cl.allN (n := 6) c59 rfl kr) (qu8 [nv m.en.src, nv m.en.ctx, nv m.en.tag, nv m.en.size, nv m.en.parts, .iface ty u] (.sl 1 1) rfl kr rfl rfl kr (z3 rfl rfl (z3 rfl rfl (z3 rfl rfl (z3 rfl rfl (u6 _ rfl rfl rfl kr (((R.ext (T59.ext (.push h59 _))).prL hp).ld (o := 4) kr rfl) kr (u6 _ rfl rfl rfl kr (Cl.allN (n := 6) (c59.ext (.push h59 _)) rfl kr) kr (z3 rfl rfl z4))))))) fun h60 c60 t60 n60 => ?_))))))
 replace c59 := c59.ext t60
 have T60 := T59.ext t60
 have N60 := T60.nx
 refine z5 ?_
 obtain ⟨cs, g0, ls⟩ := (R.ext T60).msg hp
 obtain ⟨v61, h61, e61, g61, t61, f61⟩ := g0.append (P := Tryz.prog) (sT := 70) (xT := 70) (el := 160) (by_ := 56) (z := (.agg ⟨[.int .i64 0, .int .i64 0, .int .i64 0, .int .i64 0, .int .i64 0, .nilIface]⟩)) (m := 1) (ds := [nv m.en.src, nv m.en.ctx, nv m.en.tag, nv m.en.size, nv m.en.parts, .iface ty u]) kr kr kr kr kr rfl (by decide) (xj1 6 c60 rfl) (List.all_eq_true.1 rfl) (by omega)
 obtain ⟨va, vc, rfl⟩ := g61.sd.form
 refine V9 (.slice va ((W.pr p).msgs.length + 1) vc) h61 rfl rfl kr (vs := [G.S (.msg p), .slice (some ⟨h59.next, 0, none⟩) 1 1]) kr (J7 e61) ?_
 replace c59 := c59.lt
 replace c60 := c60.lt
 have T61 : Sm (fun c => vb (G.S (.msg p)) = some c) h60 h61 := t61
 have N61 := T61.nx
 refine q5 ⟨rfl, ?_⟩
 refine D_e (e := 10) (l := [8,9]) (s' := []) kr kr rfl kr (E0 kr) (z2 2 kr (z5 ?_))
 have Rb := R.ext T60
 have hnw : ¬ vb (G.S (.msg p)) = some (G.B (.pr p)) := fun e => Rb.op.ne (r := .msg p) (r' := .pr p) (by obtain ⟨cs, e, _⟩ := (Rb.rel.pr p hp).msg; rw [e]; simp) (by rw [(Rb.rel.pr p hp).pr]; simp) (by simp) (J4 e) rfl
 obtain ⟨h62, e62, d62, t62, n62⟩ := ((Rb.prL hp).sm T61 hnw).store (P := Tryz.prog) (T := 70) (o := 4) (v := .slice va ((W.pr p).msgs.length + 1) vc) kr rfl rfl (by simp [prC])
 have hlen : ((W.pr p).msgs ++ [m]).length = (W.pr p).msgs.length + 1 := by simp
 rw [<- hlen] at d62
 have hN : Nxt (W.setPr p { W.pr p with msgs := (W.pr p).msgs ++ [m] }) G h60 h62 := Rb.setMsg hp (ls.app (Ls.one ⟨_, hv.mono (R.op.dr (T60).of), rfl⟩ rfl)) (by rw [hlen]; exact g61) T61 (fun c hc => .inl hc) (fun c hc => by rw [hlen] at hc; exact f61 c hc) d62 t62
 refine Q3 _ rfl rfl rfl kr kr (e62) ?_
 have T62 : Sm Nix h62 h62 := .refl
 refine q5 ⟨rfl, ?_⟩
 refine D_l (l := []) kr kr z4 (z5 ?_)
 repeat with_reducible refine Q9 ?_
 refine z0 (v := .tuple ⟨[]⟩) (.inr rfl) kr ?_
 exact Nxt.pre T60 hN
end
end Go.Proofs.YtjealfplbigphaaGreat
namespace Go.Proofs.YtjealfplbigphaaGreat
noncomputable section
open Go Go.X Go.Arm Go.Mt
theorem uy3 {κ : Type} [DecidableEq κ] (f : Nat -> Value) (l : List (κ × Nat)) (k : κ) (n : Nat) : kset (l.map fun e => (e.1, f e.2)) k (f n) = (kset l k n).map fun e => (e.1, f e.2) := by
 induction l with
 | nil => rfl
 | cons x l ih =>
  simp only [List.map_cons]
  unfold kset
  split
  . rfl
  . rw [List.map_cons, ih]
theorem uy2 {κ β : Type} [DecidableEq κ] {l : List (κ × β)} {k : κ} {n : β} {x : κ × β} (h : x ∈ kset l k n) : x ∈ l ∨ x.2 = n := by
 induction l with
 | nil => simp [kset] at h; exact .inr (by rw [h])
 | cons y l ih =>
  unfold kset at h
  split at h
  . rcases List.mem_cons.1 h with h | h
    . exact .inr (by rw [h])
    . exact .inl (List.mem_cons_of_mem _ h)
  . rcases List.mem_cons.1 h with h | h
    . exact .inl (by rw [h]; simp)
    . exact (ih h).imp (List.mem_cons_of_mem _) id
theorem _root_.Go.Arm.Dr.mono0 {h h' : AH} {ro ro' : Nat -> Prop} {v : Value} {d : By} (H : Dr h ro v d) (f : ∀ v d, Dr h ro v d -> Dr h' ro' v d) : Dr h' ro' v d := f v d H
set_option maxHeartbeats 1000000 in
theorem yv6 {W : Wd} {G : Gh} {h : AH} {p no : Nat} {m : Ms} {W' : Wd} {v : Value} (R : Rep W G h) (hp : p < W.n) (hr : G.C (.rq p no) ≠ .no) (hv : MsV h G.ro v m) (he : W.mtch p no m = some W') :
  Arm.Calls Tryz.prog 83 [ptr (G.B .wd), nv (p : Int), ptr (G.B (.rq p no)), .agg ⟨[nv m.en.src, nv m.en.ctx, nv m.en.tag, nv m.en.size, nv m.en.parts, v]⟩] h (fun r => Nxt W' G h r.2) := by
 cases m with
 | eager e d =>
  obtain ⟨dv, hd, rfl⟩ := hv
  obtain ⟨da, dc, rfl⟩ := hd.1.form
  unfold Wd.mtch at he
  dsimp only [Ms.en] at he ⊢
  split at he
  . rename_i hcond
    obtain ⟨hl, h0⟩ := hcond
    unfold Wd.put at he
    split at he
    . rename_i hlw
      obtain rfl := Option.some.inj he
      clear he
      rw [<- Wd.setRq_setRq W p no { W.rq p no with st := ⟨e.src, e.tag, e.size, 0⟩ }] at hlw ⊢
      refine j9 70 Tryz.f83 ?_
      have T0 : Sm Nix h h := .refl
      refine q7 (q6 ?_)
      have m63 : ¬ (Gh.mut G) h.next /\ ¬ (Gh.ro G) h.next := ⟨(R.ext T0).op.new (Nat.le_refl _), (R.ext T0).op.newr (Nat.le_refl _)⟩
      refine Q1 [nv e.src, nv e.ctx, nv e.tag, nv e.size, nv e.parts, .iface Tys.e (.agg ⟨[nv e.src, nv e.ctx, nv e.tag, nv e.size, nv e.parts, .slice da (List.map bv d).length dc]⟩)] .ptr rfl rfl kr fun h63 c63 t63 n63 => ?_
      have T63 := T0.ext t63
      have N63 := T63.nx
      refine q5 (z1 3 kr (z9 _ rfl rfl kr (c63.ld (o := 0) kr rfl) (L_g 2 kr (z9 _ rfl rfl kr (c63.ld (o := 2) kr rfl) (L_g 2 kr (z9 _ rfl rfl kr (c63.ld (o := 3) kr rfl) (L_g 3 kr ?_)))))))
      obtain ⟨dv9, hd9, c9⟩ := (R.ext T63).rqL hp hr
      replace c9 : Cl h63 (Gh.B G (.rq p no)) (rqX (W.rq p no) dv9 (G.S (.pcs p no)) (G.S (.snt p no))) := c9
      obtain ⟨h64, e64, d64, t64, n64⟩ := c9.storeAt (P := Tryz.prog) (T := 50) (o := 17) (v := .agg ⟨[nv e.src, nv e.tag, nv e.size, nv 0]⟩) (vs := [nv e.src, nv e.tag, nv e.size, nv 0]) kr rfl (by simp) (List.all_eq_true.1 rfl)
      have N64 : Nxt (W.setRq p no { (W.rq p no) with st := ⟨e.src, e.tag, e.size, 0⟩ }) G h63 h64 := (R.ext T63).stRq hp hr (r := { (W.rq p no) with st := ⟨e.src, e.tag, e.size, 0⟩ }) hd9 d64 t64 rfl rfl rfl
      clear hd9
      refine Q3 _ rfl rfl rfl kr kr (e64) ?_
      obtain ⟨S64, C64, ro64, R64, Y64⟩ := N64
      have X64 := ((Gx.refl).trans (Gx.of T63)).trans Y64
      have hr_64 := (Y64.keep _ hr).1
      have m63_64 : ¬ (Gh.mut ⟨Gh.B G, S64, C64, ro64⟩) (h.next) /\ ¬ (Gh.ro ⟨Gh.B G, S64, C64, ro64⟩) (h.next) := ⟨fun hm => (Y64.mu _ hm).elim m63.1 (fun e => by have := c63.lt; omega), fun hm => (Y64.ron _ hm).elim m63.2 (fun e => by have := c63.lt; omega)⟩
      replace c63 := c63.sm Y64.sm m63.1
      have T64 : Sm (Ow h (⟨Gh.B G, S64, C64, ro64⟩ : Gh)) h64 h64 := .refl
      refine q5 (z1 1 kr (z9 _ rfl rfl kr (c63.ld (o := 5) kr rfl) (q5 (u3 (z1 3 kr (q5 (U7 kr ?_)))))))
      refine q7 (q6 ?_)
      have m65 : ¬ (Gh.mut (⟨Gh.B G, S64, C64, ro64⟩ : Gh)) h64.next /\ ¬ (Gh.ro (⟨Gh.B G, S64, C64, ro64⟩ : Gh)) h64.next := ⟨(R64.ow T64).op.new (Nat.le_refl _), (R64.ow T64).op.newr (Nat.le_refl _)⟩
      refine L_nw (Al.cells [nv 0, nv 0, nv 0, nv 0, nv 0, .slice none 0 0]) .ptr rfl rfl kr ?_
      have l65_t7 := c63.lt
      have c65 : Cl (h64.push (Al.cells [nv 0, nv 0, nv 0, nv 0, nv 0, .slice none 0 0]).obj) h64.next [nv 0, nv 0, nv 0, nv 0, nv 0, .slice none 0 0] := Cl.new h64 _
      have t65 : Sm Nix h64 (h64.push (Al.cells [nv 0, nv 0, nv 0, nv 0, nv 0, .slice none 0 0]).obj) := .push h64 _
      have n65 : (h64.push (Al.cells [nv 0, nv 0, nv 0, nv 0, nv 0, .slice none 0 0]).obj).next = h64.next + 1 := rfl
      generalize h64.push (Al.cells [nv 0, nv 0, nv 0, nv 0, nv 0, .slice none 0 0]).obj = h65 at c65 t65 n65 ⊢
      replace c63 := c63.ext t65
      have T65 : Sm (Ow h (⟨Gh.B G, S64, C64, ro64⟩ : Gh)) h64 h65 := T64.ext t65
      have N65 := T65.nx
      obtain ⟨h66, e66, d66, t66, n66⟩ := c65.sA 175 [nv e.src, nv e.ctx, nv e.tag, nv e.size, nv e.parts, .slice da (List.map bv d).length dc]
      replace c63 := c63.sn t66
      replace c65 := d66
      have T66 : Sm (Ow h (⟨Gh.B G, S64, C64, ro64⟩ : Gh)) h64 h66 := T65.trans t66 (fun x hx => by have hx : x = h64.next := hx; subst hx; first | exact .inr (by omega) | exact .inl ⟨by omega, m65.1, m65.2⟩ | exact .inl rfl)
      have N66 := T66.nx
      refine Q3 _ rfl rfl rfl kr kr (e66) (q5 (z1 2 kr (z9 _ rfl rfl kr (c65.ld (o := 5) kr rfl) (L_c rfl rfl kr (yz9 (R64.ow T66) hp hr_64 (hd.mono0 (Gx.dr ((X64).ow T66) R.op)) hl (by rw [Wd.setRq_at]; exact h0)) ?_))))
      rintro v67 h67 N67
      dsimp only at N67
      obtain ⟨S67, C67, ro67, R67, Y67⟩ := N67
      have X67 := ((X64).ow T66).trans Y67
      have hr_67 := (Y67.keep _ hr_64).1
      have m63_64_67 : ¬ (Gh.mut ⟨Gh.B (⟨Gh.B G, S64, C64, ro64⟩ : Gh), S67, C67, ro67⟩) (h.next) /\ ¬ (Gh.ro ⟨Gh.B (⟨Gh.B G, S64, C64, ro64⟩ : Gh), S67, C67, ro67⟩) (h.next) := ⟨fun hm => (Y67.mu _ hm).elim m63_64.1 (fun e => by have := c63.lt; omega), fun hm => (Y67.ron _ hm).elim m63_64.2 (fun e => by have := c63.lt; omega)⟩
      replace c63 := c63.sm Y67.sm m63_64.1
      have m65_67 : ¬ (Gh.mut ⟨Gh.B (⟨Gh.B G, S64, C64, ro64⟩ : Gh), S67, C67, ro67⟩) (h64.next) /\ ¬ (Gh.ro ⟨Gh.B (⟨Gh.B G, S64, C64, ro64⟩ : Gh), S67, C67, ro67⟩) (h64.next) := ⟨fun hm => (Y67.mu _ hm).elim m65.1 (fun e => by have := c65.lt; omega), fun hm => (Y67.ron _ hm).elim m65.2 (fun e => by have := c65.lt; omega)⟩
      replace c65 := c65.sm Y67.sm m65.1
      have T67 : Sm (Ow h (⟨Gh.B (⟨Gh.B G, S64, C64, ro64⟩ : Gh), S67, C67, ro67⟩ : Gh)) h67 h67 := .refl
      refine q5 (Z3 4 kr (z9 _ rfl rfl kr (c63.ld (o := 0) kr rfl) (L_g 2 kr (L_c rfl rfl kr (E8 (R67.ow T67) (x := .credit) rfl hlw) ?_))))
      rintro v68 h68 N68
      dsimp only at N68
      obtain ⟨S68, C68, ro68, R68, Y68⟩ := N68
      have X68 := ((X67).ow T67).trans Y68
      have hr_68 := (Y68.keep _ hr_67).1
      have m63_64_67_68 : ¬ (Gh.mut ⟨Gh.B (⟨Gh.B (⟨Gh.B G, S64, C64, ro64⟩ : Gh), S67, C67, ro67⟩ : Gh), S68, C68, ro68⟩) (h.next) /\ ¬ (Gh.ro ⟨Gh.B (⟨Gh.B (⟨Gh.B G, S64, C64, ro64⟩ : Gh), S67, C67, ro67⟩ : Gh), S68, C68, ro68⟩) (h.next) := ⟨fun hm => (Y68.mu _ hm).elim m63_64_67.1 (fun e => by have := c63.lt; omega), fun hm => (Y68.ron _ hm).elim m63_64_67.2 (fun e => by have := c63.lt; omega)⟩
      have m65_67_68 : ¬ (Gh.mut ⟨Gh.B (⟨Gh.B (⟨Gh.B G, S64, C64, ro64⟩ : Gh), S67, C67, ro67⟩ : Gh), S68, C68, ro68⟩) (h64.next) /\ ¬ (Gh.ro ⟨Gh.B (⟨Gh.B (⟨Gh.B G, S64, C64, ro64⟩ : Gh), S67, C67, ro67⟩ : Gh), S68, C68, ro68⟩) (h64.next) := ⟨fun hm => (Y68.mu _ hm).elim m65_67.1 (fun e => by have := c65.lt; omega), fun hm => (Y68.ron _ hm).elim m65_67.2 (fun e => by have := c65.lt; omega)⟩
      have T68 : Sm (Ow h (⟨Gh.B (⟨Gh.B (⟨Gh.B G, S64, C64, ro64⟩ : Gh), S67, C67, ro67⟩ : Gh), S68, C68, ro68⟩ : Gh)) h68 h68 := .refl
      refine q5 ?_
      repeat with_reducible refine Q9 ?_
      refine z0 (v := .tuple ⟨[]⟩) (.inr rfl) kr ?_
      have R9 := (R68.ow T68)
      rw [Wd.setRq_at] at R9
      exact ⟨_, _, _, R9, ((X68).ow T68)⟩
    . cases he
  . cases he
 | ask e q =>
  obtain rfl := hv
  unfold Wd.mtch at he
  dsimp only [Ms.en] at he ⊢
  unfold Wd.put at he
  split at he
  . rename_i hlw
    obtain rfl := Option.some.inj he
    clear he
    refine j9 70 Tryz.f83 ?_
    have T0 : Sm Nix h h := .refl
    refine q7 (q6 ?_)
    have m69 : ¬ (Gh.mut G) h.next /\ ¬ (Gh.ro G) h.next := ⟨(R.ext T0).op.new (Nat.le_refl _), (R.ext T0).op.newr (Nat.le_refl _)⟩
    refine Q1 [nv e.src, nv e.ctx, nv e.tag, nv e.size, nv e.parts, .iface Tys.a (.agg ⟨[nv e.src, nv e.ctx, nv e.tag, nv e.size, nv e.parts, nv q]⟩)] .ptr rfl rfl kr fun h69 c69 t69 n69 => ?_
    have T69 := T0.ext t69
    have N69 := T69.nx
    refine q5 (z1 3 kr (z9 _ rfl rfl kr (c69.ld (o := 0) kr rfl) (L_g 2 kr (z9 _ rfl rfl kr (c69.ld (o := 2) kr rfl) (L_g 2 kr (z9 _ rfl rfl kr (c69.ld (o := 3) kr rfl) (L_g 3 kr ?_)))))))
    obtain ⟨dv9, hd9, c9⟩ := (R.ext T69).rqL hp hr
    replace c9 : Cl h69 (Gh.B G (.rq p no)) (rqX (W.rq p no) dv9 (G.S (.pcs p no)) (G.S (.snt p no))) := c9
    obtain ⟨h70, e70, d70, t70, n70⟩ := c9.storeAt (P := Tryz.prog) (T := 50) (o := 17) (v := .agg ⟨[nv e.src, nv e.tag, nv e.size, nv 0]⟩) (vs := [nv e.src, nv e.tag, nv e.size, nv 0]) kr rfl (by simp) (List.all_eq_true.1 rfl)
    have N70 : Nxt (W.setRq p no { (W.rq p no) with st := ⟨e.src, e.tag, e.size, 0⟩ }) G h69 h70 := (R.ext T69).stRq hp hr (r := { (W.rq p no) with st := ⟨e.src, e.tag, e.size, 0⟩ }) hd9 d70 t70 rfl rfl rfl
    clear hd9
    refine Q3 _ rfl rfl rfl kr kr (e70) ?_
    obtain ⟨S70, C70, ro70, R70, Y70⟩ := N70
    have X70 := ((Gx.refl).trans (Gx.of T69)).trans Y70
    have hr_70 := (Y70.keep _ hr).1
    have m69_70 : ¬ (Gh.mut ⟨Gh.B G, S70, C70, ro70⟩) (h.next) /\ ¬ (Gh.ro ⟨Gh.B G, S70, C70, ro70⟩) (h.next) := ⟨fun hm => (Y70.mu _ hm).elim m69.1 (fun e => by have := c69.lt; omega), fun hm => (Y70.ron _ hm).elim m69.2 (fun e => by have := c69.lt; omega)⟩
    replace c69 := c69.sm Y70.sm m69.1
    have T70 : Sm (Ow h (⟨Gh.B G, S70, C70, ro70⟩ : Gh)) h70 h70 := .refl
    refine q5 (z1 1 kr (z9 _ rfl rfl kr (c69.ld (o := 5) kr rfl) (q5 (u3 (z1 3 kr (q5 (Q2 kr ?_)))))))
    refine z1 3 kr (q5 (U7 kr (q7 (q6 ?_))))
    have m71 : ¬ (Gh.mut (⟨Gh.B G, S70, C70, ro70⟩ : Gh)) h70.next /\ ¬ (Gh.ro (⟨Gh.B G, S70, C70, ro70⟩ : Gh)) h70.next := ⟨(R70.ow T70).op.new (Nat.le_refl _), (R70.ow T70).op.newr (Nat.le_refl _)⟩
    refine L_nw (Al.cells [nv 0, nv 0, nv 0, nv 0, nv 0, nv 0]) .ptr rfl rfl kr ?_
    have l71_t7 := c69.lt
    have c71 : Cl (h70.push (Al.cells [nv 0, nv 0, nv 0, nv 0, nv 0, nv 0]).obj) h70.next [nv 0, nv 0, nv 0, nv 0, nv 0, nv 0] := Cl.new h70 _
    have t71 : Sm Nix h70 (h70.push (Al.cells [nv 0, nv 0, nv 0, nv 0, nv 0, nv 0]).obj) := .push h70 _
    have n71 : (h70.push (Al.cells [nv 0, nv 0, nv 0, nv 0, nv 0, nv 0]).obj).next = h70.next + 1 := rfl
    generalize h70.push (Al.cells [nv 0, nv 0, nv 0, nv 0, nv 0, nv 0]).obj = h71 at c71 t71 n71 ⊢
    replace c69 := c69.ext t71
    have T71 : Sm (Ow h (⟨Gh.B G, S70, C70, ro70⟩ : Gh)) h70 h71 := T70.ext t71
    have N71 := T71.nx
    obtain ⟨h72, e72, d72, t72, n72⟩ := c71.sA 173 [nv e.src, nv e.ctx, nv e.tag, nv e.size, nv e.parts, nv q]
    replace c69 := c69.sn t72
    replace c71 := d72
    have T72 : Sm (Ow h (⟨Gh.B G, S70, C70, ro70⟩ : Gh)) h70 h72 := T71.trans t72 (fun x hx => by have hx : x = h70.next := hx; subst hx; first | exact .inr (by omega) | exact .inl ⟨by omega, m71.1, m71.2⟩ | exact .inl rfl)
    have N72 := T72.nx
    refine Q3 _ rfl rfl rfl kr kr (e72) (q5 (q7 (u4 kr (D_e (e := 17) (l := [0,1,2,3,4,5,6,7,8,9,10,11,12,13,14,15,16]) (s' := []) kr kr rfl kr z4 (z2 3 kr (q9 _ rfl rfl kr kr kr ((R70.ow T72).wdL.ld (o := 1) kr rfl) (z2 1 kr ?_)))))))
    obtain ⟨b1, o1, i1, l1⟩ := (R70.ow T72).prsAt (P := Tryz.prog) (T := 61) (el := 64) kr kr kr hp
    refine U0 _ rfl rfl kr kr kr kr (i1) (q9 _ rfl rfl kr kr kr (l1) (z2 2 kr (q9 _ rfl rfl kr kr kr (((R70.ow T72).prL hp).ld (o := 2) kr rfl) (z2 2 kr (q9 _ rfl rfl kr kr kr (c69.ld (o := 0) kr rfl) (z2 1 kr (q9 _ rfl rfl kr kr kr (c71.ld (o := 5) kr rfl) (z2 2 kr (z5 ?_)))))))))
    have hE := (R70.ow T72).exs hp
    obtain ⟨h73, e73, mp73, t73, n73⟩ := hE.1.update (P := Tryz.prog) (T := 66) (el := 100) kr xk5 (e.src, q) (v := ptr (Gh.B (⟨Gh.B G, S70, C70, ro70⟩ : Gh) (.rq p no))) (y := ptr (Gh.B (⟨Gh.B G, S70, C70, ro70⟩ : Gh) (.rq p no))) rfl
    have e9 := uy3 (fun k => ptr (Gh.B (⟨Gh.B G, S70, C70, ro70⟩ : Gh) (.rq p k))) ((W.setRq p no { W.rq p no with st := ⟨e.src, e.tag, e.size, 0⟩ }).pr p).exps (e.src, q) no
    dsimp only at e9
    have mp973 : Mp h73 (Gh.B (⟨Gh.B G, S70, C70, ro70⟩ : Gh) (.exs p)) k2 Eq ((kset ((W.setRq p no { W.rq p no with st := ⟨e.src, e.tag, e.size, 0⟩ }).pr p).exps (e.src, q) no).map fun e => (e.1, ptr (Gh.B (⟨Gh.B G, S70, C70, ro70⟩ : Gh) (.rq p e.2)))) := e9 ▸ mp73
    have N73 : Nxt ((W.setRq p no { W.rq p no with st := ⟨e.src, e.tag, e.size, 0⟩ }).setPr p { (W.setRq p no { W.rq p no with st := ⟨e.src, e.tag, e.size, 0⟩ }).pr p with exps := kset ((W.setRq p no { W.rq p no with st := ⟨e.src, e.tag, e.size, 0⟩ }).pr p).exps (e.src, q) no }) (⟨Gh.B G, S70, C70, ro70⟩ : Gh) h72 h73 := (R70.ow T72).setExs hp (fun x hx => (uy2 hx).elim (fun y => ((R70.ow T72).rel.pr p hp).exp x y) (fun y => by rw [y]; exact hr_70)) (mp973) (hE.2.update e73) t73
    refine L_mu _ rfl rfl rfl kr kr kr e73 ?_
    obtain ⟨S73, C73, ro73, R73, Y73⟩ := N73
    have X73 := ((X70).ow T72).trans Y73
    have hr_73 := (Y73.keep _ hr_70).1
    have m69_70_73 : ¬ (Gh.mut ⟨Gh.B (⟨Gh.B G, S70, C70, ro70⟩ : Gh), S73, C73, ro73⟩) (h.next) /\ ¬ (Gh.ro ⟨Gh.B (⟨Gh.B G, S70, C70, ro70⟩ : Gh), S73, C73, ro73⟩) (h.next) := ⟨fun hm => (Y73.mu _ hm).elim m69_70.1 (fun e => by have := c69.lt; omega), fun hm => (Y73.ron _ hm).elim m69_70.2 (fun e => by have := c69.lt; omega)⟩
    replace c69 := c69.sm Y73.sm m69_70.1
    have m71_73 : ¬ (Gh.mut ⟨Gh.B (⟨Gh.B G, S70, C70, ro70⟩ : Gh), S73, C73, ro73⟩) (h70.next) /\ ¬ (Gh.ro ⟨Gh.B (⟨Gh.B G, S70, C70, ro70⟩ : Gh), S73, C73, ro73⟩) (h70.next) := ⟨fun hm => (Y73.mu _ hm).elim m71.1 (fun e => by have := c71.lt; omega), fun hm => (Y73.ron _ hm).elim m71.2 (fun e => by have := c71.lt; omega)⟩
    replace c71 := c71.sm Y73.sm m71.1
    have T73 : Sm (Ow h (⟨Gh.B (⟨Gh.B G, S70, C70, ro70⟩ : Gh), S73, C73, ro73⟩ : Gh)) h73 h73 := .refl
    refine q5 ⟨rfl, ?_⟩
    refine D_l (l := []) kr kr z4 (z5 (Z3 4 kr (z9 _ rfl rfl kr (c69.ld (o := 0) kr rfl) (L_g 1 kr (z9 _ rfl rfl kr (c71.ld (o := 5) kr rfl) (L_g 2 kr (L_c rfl rfl kr (E8 (R73.ow T73) (x := .clear q) rfl hlw) ?_)))))))
    rintro v74 h74 N74
    dsimp only at N74
    obtain ⟨S74, C74, ro74, R74, Y74⟩ := N74
    have X74 := ((X73).ow T73).trans Y74
    have hr_74 := (Y74.keep _ hr_73).1
    have m69_70_73_74 : ¬ (Gh.mut ⟨Gh.B (⟨Gh.B (⟨Gh.B G, S70, C70, ro70⟩ : Gh), S73, C73, ro73⟩ : Gh), S74, C74, ro74⟩) (h.next) /\ ¬ (Gh.ro ⟨Gh.B (⟨Gh.B (⟨Gh.B G, S70, C70, ro70⟩ : Gh), S73, C73, ro73⟩ : Gh), S74, C74, ro74⟩) (h.next) := ⟨fun hm => (Y74.mu _ hm).elim m69_70_73.1 (fun e => by have := c69.lt; omega), fun hm => (Y74.ron _ hm).elim m69_70_73.2 (fun e => by have := c69.lt; omega)⟩
    have m71_73_74 : ¬ (Gh.mut ⟨Gh.B (⟨Gh.B (⟨Gh.B G, S70, C70, ro70⟩ : Gh), S73, C73, ro73⟩ : Gh), S74, C74, ro74⟩) (h70.next) /\ ¬ (Gh.ro ⟨Gh.B (⟨Gh.B (⟨Gh.B G, S70, C70, ro70⟩ : Gh), S73, C73, ro73⟩ : Gh), S74, C74, ro74⟩) (h70.next) := ⟨fun hm => (Y74.mu _ hm).elim m71_73.1 (fun e => by have := c71.lt; omega), fun hm => (Y74.ron _ hm).elim m71_73.2 (fun e => by have := c71.lt; omega)⟩
    have T74 : Sm (Ow h (⟨Gh.B (⟨Gh.B (⟨Gh.B G, S70, C70, ro70⟩ : Gh), S73, C73, ro73⟩ : Gh), S74, C74, ro74⟩ : Gh)) h74 h74 := .refl
    refine q5 ?_
    repeat with_reducible refine Q9 ?_
    refine z0 (v := .tuple ⟨[]⟩) (.inr rfl) kr ?_
    exact ⟨_, _, _, (R74.ow T74), ((X74).ow T74)⟩
  . cases he
end
end Go.Proofs.YtjealfplbigphaaGreat
namespace Go.Proofs.YtjealfplbigphaaGreat
noncomputable section
open Go Go.X Go.Arm Go.Mt
theorem Qx0 {x : Int} (h0 : -1000000000 < x) (h1 : x < 1000000000) : Value.int .i64 (IntKind.i64.wrap (x + 1)) = nv (x + 1) := by
 have : IntKind.i64.wrap (x + 1) = x + 1 := by rw [IntKind.wrap_i64]; omega
 rw [this]; rfl
theorem _root_.Go.Arm.Dr.ext {h h' : AH} {ro : Nat -> Prop} {v : Value} {d : By} (H : Dr h ro v d) (s : Sm Nix h h') : Dr h' ro v d := ⟨H.1.ext s, H.2⟩
theorem xw1 {α : Type} {l : List α} {pr : α -> Bool} {i : Nat} (h : l.findIdx? pr = some i) : i < l.length := by
 rw [List.findIdx?_eq_some_iff_getElem] at h
 exact h.1
theorem xg0 {W : Wd} {G : Gh} {h : AH} {p : Nat} {m : Ms} {W' : Wd} {v : Value} (R : Rep W G h) (hp : p < W.n) (hv : MsV h G.ro v m) (he : W.came p m = some W') :
   Arm.Calls Tryz.prog 123 [ptr (G.B .wd), nv (p : Int), .agg ⟨[nv m.en.src, nv m.en.ctx, nv m.en.tag, nv m.en.size, nv m.en.parts, v]⟩] h (fun r => Nxt W' G h r.2) := by
 obtain ⟨ty, u, rfl⟩ := hv.iface
 unfold Wd.came at he
 split at he
 . cases he
 . rename_i hc
   obtain ⟨hsm, hl⟩ := Classical.not_not.1 hc
   split at he
   . rename_i i hf
     obtain ⟨x, hx⟩ : ∃ x, (W.pr p).rcvs[i]? = some x := ⟨_, List.getElem?_eq_getElem (xw1 hf)⟩
     have hr := (R.rel.pr p hp).rcp x (List.mem_of_getElem? hx)
     rw [List.getD_eq_getElem?_getD, hx, Option.getD_some] at he
     refine j9 35 Tryz.f123 ?_
     have T0 : Sm Nix h h := .refl
     refine q7 (q6 ?_)
     have m75 : ¬ (Gh.mut G) h.next /\ ¬ (Gh.ro G) h.next := ⟨(R.ext T0).op.new (Nat.le_refl _), (R.ext T0).op.newr (Nat.le_refl _)⟩
     refine Q1 [nv m.en.src, nv m.en.ctx, nv m.en.tag, nv m.en.size, nv m.en.parts, .iface ty u] .ptr rfl rfl kr fun h75 c75 t75 n75 => ?_
     have T75 := T0.ext t75
     have N75 := T75.nx
     refine q5 (z1 3 kr (z9 _ rfl rfl kr ((R.ext T75).wdL.ld (o := 1) kr rfl) (L_g 1 kr ?_)))
     obtain ⟨b1, o1, i1, l1⟩ := (R.ext T75).prsAt (P := Tryz.prog) (T := 61) (el := 64) kr kr kr hp
     refine Z8 _ rfl rfl kr kr (i1) (z9 _ rfl rfl kr (l1) (L_g 1 kr (q5 (z1 4 kr (L_c rfl rfl kr (uw6 (R.ext T75) hp (pr := fun no => (W.rq p no).fits m.en) hl (fun _ _ => by kernel_rfl) (fun x hx h' t => uu1 (e := m.en) ((R.ext T75).ext t) hp ((R.rel.pr p hp).rcp x hx) (hsm x hx) (c75.ext t)) hf hx) ?_)))))
     rintro v76 h76 ⟨e76, N76⟩
     dsimp only at e76 N76
     subst e76
     obtain ⟨S76, C76, ro76, R76, Y76⟩ := N76
     have X76 := ((Gx.refl).trans (Gx.of T75)).trans Y76
     have m75_76 : ¬ (Gh.mut ⟨Gh.B G, S76, C76, ro76⟩) (h.next) /\ ¬ (Gh.ro ⟨Gh.B G, S76, C76, ro76⟩) (h.next) := ⟨fun hm => (Y76.mu _ hm).elim m75.1 (fun e => by have := c75.lt; omega), fun hm => (Y76.ron _ hm).elim m75.2 (fun e => by have := c75.lt; omega)⟩
     replace c75 := c75.sm Y76.sm m75.1
     have T76 : Sm (Ow h (⟨Gh.B G, S76, C76, ro76⟩ : Gh)) h76 h76 := .refl
     refine L_g 5 kr (q5 (z1 1 kr (q5 (U7 kr (Z3 3 kr (z9 _ rfl rfl kr (Cl.allN (n := 6) c75 rfl kr) (L_c rfl rfl kr (yv6 (v := .iface ty u) (R76.ow T76) hp (((((X76).ow T76)).keep _ hr).1) (hv.mono ((((X76).ow T76)).dr R.op)) he) ?_)))))))
     rintro v77 h77 N77
     dsimp only at N77
     obtain ⟨S77, C77, ro77, R77, Y77⟩ := N77
     have X77 := ((X76).ow T76).trans Y77
     have m75_76_77 : ¬ (Gh.mut ⟨Gh.B (⟨Gh.B G, S76, C76, ro76⟩ : Gh), S77, C77, ro77⟩) (h.next) /\ ¬ (Gh.ro ⟨Gh.B (⟨Gh.B G, S76, C76, ro76⟩ : Gh), S77, C77, ro77⟩) (h.next) := ⟨fun hm => (Y77.mu _ hm).elim m75_76.1 (fun e => by have := c75.lt; omega), fun hm => (Y77.ron _ hm).elim m75_76.2 (fun e => by have := c75.lt; omega)⟩
     have T77 : Sm (Ow h (⟨Gh.B (⟨Gh.B G, S76, C76, ro76⟩ : Gh), S77, C77, ro77⟩ : Gh)) h77 h77 := .refl
     refine q5 ?_
     repeat with_reducible refine Q9 ?_
     refine z0 (v := .tuple ⟨[]⟩) (.inr rfl) kr ?_
     exact ⟨_, _, _, (R77.ow T77), ((X77).ow T77)⟩
   . rename_i hf
     split at he
     . rename_i hl2
       obtain rfl := Option.some.inj he
       refine j9 35 Tryz.f123 ?_
       have T0 : Sm Nix h h := .refl
       refine q7 (q6 ?_)
       have m78 : ¬ (Gh.mut G) h.next /\ ¬ (Gh.ro G) h.next := ⟨(R.ext T0).op.new (Nat.le_refl _), (R.ext T0).op.newr (Nat.le_refl _)⟩
       refine Q1 [nv m.en.src, nv m.en.ctx, nv m.en.tag, nv m.en.size, nv m.en.parts, .iface ty u] .ptr rfl rfl kr fun h78 c78 t78 n78 => ?_
       have T78 := T0.ext t78
       have N78 := T78.nx
       refine q5 (z1 3 kr (z9 _ rfl rfl kr ((R.ext T78).wdL.ld (o := 1) kr rfl) (L_g 1 kr ?_)))
       obtain ⟨b1, o1, i1, l1⟩ := (R.ext T78).prsAt (P := Tryz.prog) (T := 61) (el := 64) kr kr kr hp
       refine Z8 _ rfl rfl kr kr (i1) (z9 _ rfl rfl kr (l1) (L_g 1 kr (q5 (z1 4 kr (L_c rfl rfl kr (xq5 (R.ext T78) hp (pr := fun no => (W.rq p no).fits m.en) hl (fun _ _ => by kernel_rfl) (fun x hx h' t => uu1 (e := m.en) ((R.ext T78).ext t) hp ((R.rel.pr p hp).rcp x hx) (hsm x hx) (c78.ext t)) hf) ?_)))))
       rintro v79 h79 ⟨e79, t79⟩
       try dsimp only at e79 t79
       subst e79
       replace c78 := c78.ext t79
       have T79 := T78.ext t79
       have N79 := T79.nx
       have M79 := t79.nx
       refine L_g 5 kr (q5 (z1 1 kr (q5 (Q2 kr (u4 kr (D_e (e := 4) (l := [0,1,2,3]) (s' := []) kr kr rfl kr z4 (z2 3 kr (q9 _ rfl rfl kr kr kr (Cl.allN (n := 6) c78 rfl kr) (z5 ?_)))))))))
       refine L_c rfl rfl kr (Qz0 (R.ext T79) hp (hv.mono ((((Gx.refl).trans (Gx.of T79))).dr R.op)) hl2) ?_
       rintro v80 h80 N80
       dsimp only at N80
       obtain ⟨S80, C80, ro80, R80, Y80⟩ := N80
       have X80 := ((Gx.refl).trans (Gx.of T79)).trans Y80
       have m78_80 : ¬ (Gh.mut ⟨Gh.B G, S80, C80, ro80⟩) (h.next) /\ ¬ (Gh.ro ⟨Gh.B G, S80, C80, ro80⟩) (h.next) := ⟨fun hm => (Y80.mu _ hm).elim m78.1 (fun e => by have := c78.lt; omega), fun hm => (Y80.ron _ hm).elim m78.2 (fun e => by have := c78.lt; omega)⟩
       have T80 : Sm (Ow h (⟨Gh.B G, S80, C80, ro80⟩ : Gh)) h80 h80 := .refl
       refine q5 ⟨rfl, ?_⟩
       refine D_l (l := []) kr kr z4 (z5 ?_)
       repeat with_reducible refine Q9 ?_
       refine z0 (v := .tuple ⟨[]⟩) (.inr rfl) kr ?_
       exact ⟨_, _, _, (R80.ow T80), ((X80).ow T80)⟩
     . cases he
end
end Go.Proofs.YtjealfplbigphaaGreat
namespace Go.Proofs.YtjealfplbigphaaGreat
noncomputable section
open Go Go.X Go.Arm Go.Mt
theorem jx9 {W : Wd} {G : Gh} {h : AH} {p : Nat} {f : Int} {e : En} {d : By} {W' : Wd} {da : Option Addr} {dc : Nat} (R : Rep W G h) (hp : p < W.n) (hd : Dr h G.ro (.slice da (List.map bv d).length dc) d) (he : W.came p (.eager e d) = some W') :
  Arm.Calls Tryz.prog 130 [.agg ⟨[nv e.src, nv e.ctx, nv e.tag, nv e.size, nv e.parts, .slice da (List.map bv d).length dc]⟩, ptr (G.B .wd), nv (p : Int), nv f] h (fun r => Nxt W' G h r.2) := by
 refine j9 16 Tryz.f130 ?_
 have T0 : Sm Nix h h := .refl
 refine q7 (q6 ?_)
 have m81 : ¬ (Gh.mut G) h.next /\ ¬ (Gh.ro G) h.next := ⟨(R.ext T0).op.new (Nat.le_refl _), (R.ext T0).op.newr (Nat.le_refl _)⟩
 refine Q1 [nv e.src, nv e.ctx, nv e.tag, nv e.size, nv e.parts, .slice da (List.map bv d).length dc] .ptr rfl rfl kr fun h81 c81 t81 n81 => ?_
 have T81 := T0.ext t81
 have N81 := T81.nx
 refine q5 (Z3 3 kr (z9 _ rfl rfl kr (Cl.ldS (k := 5) (o := 0) c81 kr (by simp)) (z9 _ rfl rfl kr (Cl.allN (n := 6) c81 rfl kr) (L_g 2 kr (L_c rfl rfl kr (xg0 (m := .eager e d) (v := .iface Tys.e (.agg ⟨[nv e.src, nv e.ctx, nv e.tag, nv e.size, nv e.parts, .slice da (List.map bv d).length dc]⟩)) (R.ext T81) hp ⟨_, Dr.ext hd (by first | exact T0 | assumption), rfl⟩ he) ?_)))))
 rintro v82 h82 N82
 dsimp only at N82
 obtain ⟨S82, C82, ro82, R82, Y82⟩ := N82
 have X82 := ((Gx.refl).trans (Gx.of T81)).trans Y82
 have m81_82 : ¬ (Gh.mut ⟨Gh.B G, S82, C82, ro82⟩) (h.next) /\ ¬ (Gh.ro ⟨Gh.B G, S82, C82, ro82⟩) (h.next) := ⟨fun hm => (Y82.mu _ hm).elim m81.1 (fun e => by have := c81.lt; omega), fun hm => (Y82.ron _ hm).elim m81.2 (fun e => by have := c81.lt; omega)⟩
 have T82 : Sm (Ow h (⟨Gh.B G, S82, C82, ro82⟩ : Gh)) h82 h82 := .refl
 refine q5 ?_
 repeat with_reducible refine Q9 ?_
 refine z0 (v := .tuple ⟨[]⟩) (.inr rfl) kr ?_
 exact ⟨_, _, _, (R82.ow T82), ((X82).ow T82)⟩
theorem Qx3 {W : Wd} {G : Gh} {h : AH} {p : Nat} {f : Int} {e : En} {q : Int} {W' : Wd} (R : Rep W G h) (hp : p < W.n) (he : W.came p (.ask e q) = some W') :
  Arm.Calls Tryz.prog 122 [.agg ⟨[nv e.src, nv e.ctx, nv e.tag, nv e.size, nv e.parts, nv q]⟩, ptr (G.B .wd), nv (p : Int), nv f] h (fun r => Nxt W' G h r.2) := by
 refine j9 16 Tryz.f122 ?_
 have T0 : Sm Nix h h := .refl
 refine q7 (q6 ?_)
 have m83 : ¬ (Gh.mut G) h.next /\ ¬ (Gh.ro G) h.next := ⟨(R.ext T0).op.new (Nat.le_refl _), (R.ext T0).op.newr (Nat.le_refl _)⟩
 refine Q1 [nv e.src, nv e.ctx, nv e.tag, nv e.size, nv e.parts, nv q] .ptr rfl rfl kr fun h83 c83 t83 n83 => ?_
 have T83 := T0.ext t83
 have N83 := T83.nx
 refine q5 (Z3 3 kr (z9 _ rfl rfl kr (Cl.ldS (k := 5) (o := 0) c83 kr (by simp)) (z9 _ rfl rfl kr (Cl.allN (n := 6) c83 rfl kr) (L_g 2 kr (L_c rfl rfl kr (xg0 (m := .ask e q) (v := .iface Tys.a (.agg ⟨[nv e.src, nv e.ctx, nv e.tag, nv e.size, nv e.parts, nv q]⟩)) (R.ext T83) hp rfl he) ?_)))))
 rintro v84 h84 N84
 dsimp only at N84
 obtain ⟨S84, C84, ro84, R84, Y84⟩ := N84
 have X84 := ((Gx.refl).trans (Gx.of T83)).trans Y84
 have m83_84 : ¬ (Gh.mut ⟨Gh.B G, S84, C84, ro84⟩) (h.next) /\ ¬ (Gh.ro ⟨Gh.B G, S84, C84, ro84⟩) (h.next) := ⟨fun hm => (Y84.mu _ hm).elim m83.1 (fun e => by have := c83.lt; omega), fun hm => (Y84.ron _ hm).elim m83.2 (fun e => by have := c83.lt; omega)⟩
 have T84 : Sm (Ow h (⟨Gh.B G, S84, C84, ro84⟩ : Gh)) h84 h84 := .refl
 refine q5 ?_
 repeat with_reducible refine Q9 ?_
 refine z0 (v := .tuple ⟨[]⟩) (.inr rfl) kr ?_
 exact ⟨_, _, _, (R84.ow T84), ((X84).ow T84)⟩
theorem xx4 {W : Wd} {G : Gh} {h : AH} {p i : Nat} (R : Rep W G h) (hp : p < W.n) (hi : i < (W.pr p).crds.length) (h1 : ((W.pr p).crds.getD i 0) < big) (h0 : -(big : Int) < ((W.pr p).crds.getD i 0)) :
  Arm.Calls Tryz.prog 131 [.agg ⟨[]⟩, ptr (G.B .wd), nv (p : Int), nv (i : Int)] h (fun r => Nxt (W.setPr p { W.pr p with crds := (W.pr p).crds.set i (((W.pr p).crds.getD i 0) + 1) }) G h r.2) := by
 have h1 : ((W.pr p).crds.getD i 0) < 1000000000 := h1
 have h0 : -1000000000 < ((W.pr p).crds.getD i 0) := h0
 have hci : ((W.pr p).crds.map nv)[i]? = some (nv ((W.pr p).crds.getD i 0)) := by rw [List.getElem?_map, List.getElem?_eq_getElem hi, List.getD_eq_getElem?_getD, List.getElem?_eq_getElem hi]; rfl
 refine j9 23 Tryz.f131 ?_
 have T0 : Sm Nix h h := .refl
 refine q7 (q6 ?_)
 have m85 : ¬ (Gh.mut G) h.next /\ ¬ (Gh.ro G) h.next := ⟨(R.ext T0).op.new (Nat.le_refl _), (R.ext T0).op.newr (Nat.le_refl _)⟩
 refine Q1 [] .ptr rfl rfl kr fun h85 c85 t85 n85 => ?_
 have T85 := T0.ext t85
 have N85 := T85.nx
 refine q5 (Z3 3 kr (z9 _ rfl rfl kr ((R.ext T85).wdL.ld (o := 1) kr rfl) (L_g 1 kr ?_)))
 obtain ⟨b1, o1, i1, l1⟩ := (R.ext T85).prsAt (P := Tryz.prog) (T := 61) (el := 64) kr kr kr hp
 refine Z8 _ rfl rfl kr kr (i1) (z9 _ rfl rfl kr (l1) (L_g 2 kr (z9 _ rfl rfl kr (((R.ext T85).prL hp).ld (o := 6) kr rfl) (L_g 1 kr ?_))))
 obtain ⟨pa, xa, i1, i2, i3, i4, i5⟩ := ((R.ext T85).crd hp).elem (P := Tryz.prog) (T := 67) (el := 3) kr kr kr hi .i64
 obtain rfl : xa = nv ((W.pr p).crds.getD i 0) := Option.some.inj (i2.symm.trans hci)
 refine Z8 _ rfl rfl kr kr (i1) (z9 _ rfl rfl kr (i3) (L_i (((W.pr p).crds.getD i 0)) (1) (nv (((W.pr p).crds.getD i 0) + 1)) rfl rfl kr kr rfl (Qx0 h0 h1) (Z8 _ rfl rfl kr kr (i1) ?_)))
 obtain ⟨h86, e86, w86, t86, n86⟩ := i5 (nv (((W.pr p).crds.getD i 0) + 1)) rfl rfl
 have N86 : Nxt (W.setPr p { W.pr p with crds := (W.pr p).crds.set i (((W.pr p).crds.getD i 0) + 1) }) G h85 h86 := (R.ext T85).setCrd hp (by rw [List.length_set, List.map_set]; exact w86) t86
 refine Q3 _ rfl rfl rfl kr kr (e86) ?_
 obtain ⟨S86, C86, ro86, R86, Y86⟩ := N86
 have X86 := ((Gx.refl).trans (Gx.of T85)).trans Y86
 have m85_86 : ¬ (Gh.mut ⟨Gh.B G, S86, C86, ro86⟩) (h.next) /\ ¬ (Gh.ro ⟨Gh.B G, S86, C86, ro86⟩) (h.next) := ⟨fun hm => (Y86.mu _ hm).elim m85.1 (fun e => by have := c85.lt; omega), fun hm => (Y86.ron _ hm).elim m85.2 (fun e => by have := c85.lt; omega)⟩
 have T86 : Sm (Ow h (⟨Gh.B G, S86, C86, ro86⟩ : Gh)) h86 h86 := .refl
 refine q5 ?_
 repeat with_reducible refine Q9 ?_
 refine z0 (v := .tuple ⟨[]⟩) (.inr rfl) kr ?_
 exact ⟨_, _, _, (R86.ow T86), ((X86).ow T86)⟩
end
end Go.Proofs.YtjealfplbigphaaGreat
namespace Go.Arm
noncomputable section
open Go Go.X Go.Mt
variable [Tys]
section
variable {W W' : Wd} {G G0 : Gh} {h h0 h' : AH} {p no b : Nat} {x : Pr} {q : Nat -> Rq}
omit [Tys] in
theorem Op.adopt (O : Op G h) (X : Gx G0 h0 G h) (r : Ro) {v : Value} {y : Th} (hy : y ≠ .no) (h1 : G.C r = .no ∨ b = G.B r) (A : At h ((G.put r b v y).V r) y) (hr : r ≠ .prs)
   (hv : ∀ c, vbx ((G.put r b v y).V r) = some c -> h0.next ≤ c /\ ¬ G.mut c /\ ¬ G.ro c) (hf : ∀ p no, r = .pcs p no ∨ r = .snt p no -> G0.C (.rq p no) = .no) : Op (G.put r b v y) h /\ Gx G0 h0 (G.put r b v y) h := by
 have hmu : ∀ c, (G.put r b v y).mut c -> G.mut c ∨ (h0.next ≤ c /\ ¬ G.mut c /\ ¬ G.ro c) := by
   rintro c ⟨r', h3, h4⟩
   by_cases e : r' = r
   . subst e; exact .inr (hv c h4)
   . rw [F9 e] at h3; rw [qz0 e] at h4; exact .inl ⟨r', h3, h4⟩
 refine ⟨⟨fun r' => ?_, fun r' r'' c h3 h4 h5 h6 => ?_, fun c hc hr => ?_, O.rolt⟩, ⟨X.sm, fun c hc => ?_, X.ron, X.rok, fun r' hr' => ?_, ?_, fun p no h9 => ?_⟩⟩
 . by_cases e : r' = r
   . subst e; rw [C_at]; exact A
   . rw [qz0 e, F9 e]; exact O.here r'
 . by_cases e : r' = r
   . by_cases e2 : r'' = r
     . rw [e, e2]
     . subst e
       rw [F9 e2] at h4; rw [qz0 e2] at h6
       exact ((hv c h5).2.1 ⟨_, h4, h6⟩).elim
   . rw [F9 e] at h3; rw [qz0 e] at h5
     by_cases e2 : r'' = r
     . subst e2
       exact ((hv c h6).2.1 ⟨_, h3, h5⟩).elim
     . rw [F9 e2] at h4; rw [qz0 e2] at h6
       exact O.inj _ _ _ h3 h4 h5 h6
 . rcases hmu c hc with q | q
   . exact O.ro c q hr
   . exact q.2.2 hr
 . rcases hmu c hc with q | q
   . exact X.mu c q
   . exact .inr q.1
 . obtain ⟨k1, k2⟩ := X.keep r' hr'
   by_cases e : r' = r
   . subst e
     refine ⟨by rw [C_at]; exact hy, ?_⟩
     show ups G.B r' b r' = _
     rw [j0]
     rcases h1 with h1 | h1
     . exact (k1 h1).elim
     . rw [h1]; exact k2
   . refine ⟨by rw [F9 e]; exact k1, ?_⟩
     show ups G.B r b r' = _
     rw [z7 _ _ e]; exact k2
 . show ups G.S r v .prs = _
   rw [z7 _ _ (Ne.symm hr)]; exact X.prs
 . have key : ∀ r', r' = .pcs p no ∨ r' = .snt p no -> ups G.S r v r' = G.S r' := fun r' h8 => by
     by_cases e : r' = r
     . subst e; exact (h9 (hf p no h8)).elim
     . rw [z7 _ _ e]
   exact ⟨(key _ (.inl rfl)).trans (X.fix p no h9).1, (key _ (.inr rfl)).trans (X.fix p no h9).2⟩
theorem Rep.adopt (R : Rep W G h) (X : Gx G0 h0 G h) (hp : p < W.n) (hn : no < (W.pr p).next) (h1 : G.C (.rq p no) = .no) (hb : h0.next ≤ b /\ ¬ G.mut b /\ ¬ G.ro b) {r : Rq} {dv : Value} (hd : Dr h G.ro dv r.data) (hps : r.pcs = []) (hss : r.sent = [])
   (c : Cl h b [nk r.no, nv r.peer, nv r.ctx, nv r.tag, nv r.room, .bool r.send, .bool r.sync, .bool r.pers, .bool r.act, .bool r.done, nk r.parts, nk r.size, dv, nilS, nk r.gone, nilS, .bool r.clr, nv r.st.src, nv r.st.tag, nv r.st.size, nv r.st.err]) :
   ∃ C, Rep (W.setRq p no r) ⟨ups G.B (.rq p no) b, ups (ups G.S (.pcs p no) nilS) (.snt p no) nilS, C, G.ro⟩ h /\ Gx G0 h0 ⟨ups G.B (.rq p no) b, ups (ups G.S (.pcs p no) nilS) (.snt p no) nilS, C, G.ro⟩ h /\ C (.rq p no) ≠ .no := by
 have hg0 : G0.C (.rq p no) = .no := Classical.byContradiction fun e => (X.keep _ e).1 h1
 obtain ⟨O1, X1⟩ := R.op.adopt X (.rq p no) (b := b) (v := G.S (.rq p no)) (y := .cl [nk r.no, nv r.peer, nv r.ctx, nv r.tag, nv r.room, .bool r.send, .bool r.sync, .bool r.pers, .bool r.act, .bool r.done, nk r.parts, nk r.size, dv, nilS, nk r.gone, nilS, .bool r.clr, nv r.st.src, nv r.st.tag, nv r.st.size, nv r.st.err]) (by simp) (.inl h1)
   ⟨b, congrArg ptr (j0 G.B (.rq p no) b), c⟩ (by simp) (fun d hd => by
     have : vbx (ptr (ups G.B (.rq p no) b (.rq p no))) = some d := hd
     rw [j0] at this
     cases this; exact hb) (fun _ _ e => by rcases e with e | e <;> cases e)
 rw [xv4] at O1 X1
 obtain ⟨O2, X2⟩ := O1.adopt X1 (.pcs p no) (b := (G.putB (.rq p no) b _).B (.pcs p no)) (v := nilS) (y := .ws 0 []) (by simp) (.inr rfl) (by
     rw [qj4]
     show Ws h 1 (ups _ _ _ _) 0 []
     rw [j0]; exact Ws.nil) (by simp) (fun d hd => by
     rw [qj4] at hd
     have : vbx (ups (G.putB (.rq p no) b _).S (.pcs p no) nilS (.pcs p no)) = some d := hd
     rw [j0] at this
     cases this) (fun p' no' e => by rcases e with e | e <;> cases e; exact hg0)
 rw [qj4] at O2 X2
 obtain ⟨O3, X3⟩ := O2.adopt X2 (.snt p no) (b := (Gh.putS (G.putB (.rq p no) b _) (.pcs p no) nilS _).B (.snt p no)) (v := nilS) (y := .ws 0 []) (by simp) (.inr rfl) (by
     rw [qj4]
     show Ws h 1 (ups _ _ _ _) 0 []
     rw [j0]; exact Ws.nil) (by simp) (fun d hd => by
     rw [qj4] at hd
     have : vbx (ups (Gh.putS (G.putB (.rq p no) b _) (.pcs p no) nilS _).S (.snt p no) nilS (.snt p no)) = some d := hd
     rw [j0] at this
     cases this) (fun p' no' e => by rcases e with e | e <;> cases e; exact hg0)
 rw [qj4] at O3 X3
 refine ⟨_, ⟨O3, ?_⟩, X3, ?_⟩
 . have hat : ∀ k, k ≠ no -> (Ro.rq p k) ≠ .rq p no := fun k e => by simpa using e
   have hpr : ∀ k, G.C (.rq p k) ≠ .no -> k ≠ no := fun k hk e => hk (by rw [e]; exact h1)
   refine ⟨R.rel.wd, ?_, R.rel.ways, R.rel.way, fun k hk => ?_⟩
   . exact R.rel.prs
   . by_cases e : k = p
     . subst e
       have P := R.rel.pr k hk
       show RelP (W.pr k) (ups W.rq k (ups (W.rq k) no r) k) _ h k
       rw [j0]
       refine ⟨P.pr, ?_, fun j hj => ?_, ?_, fun e he => ?_, P.inb, P.msg, ?_, fun j hj => ?_, P.crd, fun j hj => ?_, fun j hj => ?_, fun j hj => ?_, fun j hj => ?_⟩
       . refine P.rqs.trans (congrArg Th.mi (List.map_congr_left fun j hj => ?_))
         show _ = ((j : Int), ptr (ups G.B (.rq k no) b (.rq k j)))
         rw [z7 _ _ (hat j (hpr j (P.rqp j hj)))]
       . show ups G.C (.rq k no) _ (.rq k j) ≠ _
         rw [z7 _ _ (hat j (hpr j (P.rqp j hj)))]; exact P.rqp j hj
       . refine P.exs.trans (congrArg Th.mp (List.map_congr_left fun e he => ?_))
         show _ = (e.1, ptr (ups G.B (.rq k no) b (.rq k e.2)))
         rw [z7 _ _ (hat e.2 (hpr e.2 (P.exp e he)))]
       . show ups G.C (.rq k no) _ (.rq k e.2) ≠ _
         rw [z7 _ _ (hat e.2 (hpr e.2 (P.exp e he)))]; exact P.exp e he
       . refine P.rcv.trans (congrArg (Th.gr 1 _) (List.map_congr_left fun j hj => ?_))
         show _ = ptr (ups G.B (.rq k no) b (.rq k j))
         rw [z7 _ _ (hat j (hpr j (P.rcp j hj)))]
       . show ups G.C (.rq k no) _ (.rq k j) ≠ _
         rw [z7 _ _ (hat j (hpr j (P.rcp j hj)))]; exact P.rcp j hj
       . by_cases ej : j = no
         . subst ej
           refine ⟨dv, by rw [j0]; exact hd, ?_⟩
           rw [j0]
           refine (j0 G.C (.rq k j) _).trans ?_
           unfold rqC
           congr 1
           simp [ups]
         . have hj2 : G.C (.rq k j) ≠ .no := by
            have : ups G.C (.rq k no) _ (.rq k j) ≠ .no := hj
            rwa [z7 _ _ (hat j ej)] at this
           obtain ⟨dv', a1, a2⟩ := P.rq j hj2
           refine ⟨dv', by rw [z7 _ _ ej]; exact a1, ?_⟩
           rw [z7 _ _ ej]
           refine (z7 G.C _ (hat j ej)).trans (a2.trans ?_)
           unfold rqC
           congr 1
           simp [ups, ej]
       . by_cases ej : j = no
         . subst ej
           rw [j0, hps]
           exact ⟨[], by exact j0 _ (Ro.pcs k j) (Th.ws 0 []), .nil⟩
         . have hj2 : G.C (.rq k j) ≠ .no := by
            have : ups G.C (.rq k no) _ (.rq k j) ≠ .no := hj
            rwa [z7 _ _ (hat j ej)] at this
           rw [z7 _ _ ej]
           obtain ⟨cs, a1, a2⟩ := P.pcs j hj2
           exact ⟨cs, (z7 (Gh.C (G.putB (.rq k no) b _)) (Th.ws 0 []) (show Ro.pcs k j ≠ Ro.pcs k no by simpa using ej)).trans a1, a2⟩
       . by_cases ej : j = no
         . subst ej
           rw [j0, hss]
           exact j0 _ (Ro.snt k j) _
         . have hj2 : G.C (.rq k j) ≠ .no := by
            have : ups G.C (.rq k no) _ (.rq k j) ≠ .no := hj
            rwa [z7 _ _ (hat j ej)] at this
           rw [z7 _ _ ej]
           exact (z7 _ _ (by simpa using ej)).trans (P.snt j hj2)
       . by_cases ej : j = no
         . rw [ej]; exact hn
         . have hj2 : G.C (.rq k j) ≠ .no := by
            have : ups G.C (.rq k no) _ (.rq k j) ≠ .no := hj
            rwa [z7 _ _ (hat j ej)] at this
           exact P.nxt j hj2
     . show RelP (W.pr k) (ups W.rq p (ups (W.rq p) no r) k) _ h k
       rw [z7 _ _ e]
       refine (R.rel.pr k hk).congr (fun r' hr' => ⟨?_, ?_, ?_⟩) rfl
       . show ups (ups (ups G.C (.rq p no) _) (.pcs p no) _) (.snt p no) _ r' = _
         have hne : ∀ r'', r''.of = some p -> r' ≠ r'' := fun r'' h5 e2 => e (by rw [e2, h5] at hr'; exact (Option.some.inj hr').symm)
         rw [z7 _ _ (hne _ rfl), z7 _ _ (hne _ rfl), z7 _ _ (hne _ rfl)]
       . show ups (ups G.S (.pcs p no) _) (.snt p no) _ r' = _
         have hne : ∀ r'', r''.of = some p -> r' ≠ r'' := fun r'' h5 e2 => e (by rw [e2, h5] at hr'; exact (Option.some.inj hr').symm)
         rw [z7 _ _ (hne _ rfl), z7 _ _ (hne _ rfl)]
       . show ups G.B (.rq p no) _ r' = _
         have hne : ∀ r'', r''.of = some p -> r' ≠ r'' := fun r'' h5 e2 => e (by rw [e2, h5] at hr'; exact (Option.some.inj hr').symm)
         rw [z7 _ _ (hne _ rfl)]
 . show ups (ups (ups G.C (.rq p no) _) (.pcs p no) _) (.snt p no) _ (.rq p no) ≠ _
   rw [z7 _ _ (by simp), z7 _ _ (by simp), j0]; simp
theorem RelP.nextX (P : RelP x q G h p) (k : Nat) (hk : x.next ≤ k) : RelP { x with next := k } q (G.putC (.pr p) (.cl (prC k G p))) h p :=
 ⟨j0 _ _ _, P.rqs, P.rqp, P.exs, P.exp, P.inb, P.msg, P.rcv, P.rcp, P.crd, P.rq, P.pcs, P.snt, fun j hj => Nat.lt_of_lt_of_le (P.nxt j hj) hk⟩
theorem Rep.setNextF (R : Rep W G h) (hp : p < W.n) (k : Nat) (hk : (W.pr p).next ≤ k) (c : Cl h' (G.B (.pr p)) (prC k G p)) (t : Sm (fun c => c = G.B (.pr p)) h h') {no : Nat} (h0 : G.C (.rq p no) = .no) :
   ∃ S C ro, (Rep (W.setPr p { W.pr p with next := k }) ⟨G.B, S, C, ro⟩ h' /\ Gx G h ⟨G.B, S, C, ro⟩ h') /\ C (.rq p no) = .no := by
 obtain ⟨O, X⟩ := R.op.putC (.pr p) (x := .cl (prC k G p)) (by simp) (by rw [(R.rel.pr p hp).pr]; simp) t (fun c hc => by subst hc; rfl) ⟨_, rfl, c⟩
 refine ⟨_, _, _, ⟨⟨O, (R.rel.mono0 (X.dr R.op)).at (p := p) rfl rfl rfl (fun k hk => ⟨z7 _ _ hk, rfl⟩) (fun r' hr' => ⟨z7 _ _ (K6 rfl hr'), rfl, rfl⟩) rfl rfl fun hp => ?_⟩, X⟩, ?_⟩
 . show RelP (ups W.pr p _ p) _ _ _ _
   rw [j0]
   exact ((R.rel.mono0 (X.dr R.op)).pr p hp).nextX k hk
 . exact (z7 _ _ (by simp)).trans h0
theorem Rep.fresh (R : Rep W G h) (hp : p < W.n) : G.C (.rq p (W.pr p).next) = .no := by
 by_cases e : G.C (.rq p (W.pr p).next) = .no
 . exact e
 . have := (R.rel.pr p hp).nxt _ e; omega
end
end
end Go.Arm
namespace Go.Arm
noncomputable section
open Go Go.X Go.Mt
variable [Tys]
section
variable {W W' : Wd} {G G' : Gh} {h h' : AH} {p no : Nat} {v : Value} {x : Pr} {q : Nat -> Rq} {cs : List Value} {S : Nat -> Prop}
theorem RelP.pcsX (P : RelP x q G h p) (h0 : G.C (.rq p no) ≠ .no) {l : List (Option By)} (H : Ls (RPc h G.ro) 1 l cs) : RelP x (ups q no { q no with pcs := l }) (G.putC (.pcs p no) (.ws l.length cs)) h p := by
 have hpr : ∀ k, (G.putC (.pcs p no) (.ws l.length cs)).C (.rq p k) = G.C (.rq p k) := fun k => (show ups G.C (.pcs p no) (.ws l.length cs) (.rq p k) = _ from z7 _ _ (by simp))
 refine ⟨P.pr, P.rqs, fun k hk => by rw [hpr]; exact P.rqp k hk, P.exs, fun e he => by rw [hpr]; exact P.exp e he, P.inb, P.msg, P.rcv, fun k hk => by rw [hpr]; exact P.rcp k hk, P.crd, fun k hk => ?_, fun k hk => ?_, fun k hk => ?_, fun k hk => P.nxt k (by rw [hpr] at hk; exact hk)⟩
 . rw [hpr] at hk
   obtain ⟨dv, a, b⟩ := P.rq k hk
   refine ⟨dv, ?_, ?_⟩
   . by_cases e : k = no
     . subst e; rw [j0]; exact a
     . rw [z7 _ _ e]; exact a
   . rw [hpr, b]
     by_cases e : k = no
     . subst e; rw [j0]; rfl
     . rw [z7 _ _ e]; rfl
 . rw [hpr] at hk
   by_cases e : k = no
   . subst e
     rw [j0]; exact ⟨cs, j0 _ _ _, H⟩
   . rw [z7 _ _ e]
     obtain ⟨cs', a, b⟩ := P.pcs k hk
     exact ⟨cs', (z7 _ _ (by simpa using e)).trans a, b⟩
 . rw [hpr] at hk
   have e0 : (G.putC (.pcs p no) (.ws l.length cs)).C (.snt p k) = G.C (.snt p k) := (show ups G.C (.pcs p no) (.ws l.length cs) (.snt p k) = _ from z7 _ _ (by simp))
   rw [e0, P.snt k hk]
   by_cases e : k = no
   . subst e; rw [j0]
   . rw [z7 _ _ e]
theorem RelP.sntX (P : RelP x q G h p) (h0 : G.C (.rq p no) ≠ .no) {l : List Bool} : RelP x (ups q no { q no with sent := l }) (G.putC (.snt p no) (.ws l.length (l.map .bool))) h p := by
 have hpr : ∀ k, (G.putC (.snt p no) (.ws l.length (l.map Value.bool))).C (.rq p k) = G.C (.rq p k) := fun k => (show ups G.C (.snt p no) (.ws l.length (l.map Value.bool)) (.rq p k) = _ from z7 _ _ (by simp))
 refine ⟨P.pr, P.rqs, fun k hk => by rw [hpr]; exact P.rqp k hk, P.exs, fun e he => by rw [hpr]; exact P.exp e he, P.inb, P.msg, P.rcv, fun k hk => by rw [hpr]; exact P.rcp k hk, P.crd, fun k hk => ?_, fun k hk => ?_, fun k hk => ?_, fun k hk => P.nxt k (by rw [hpr] at hk; exact hk)⟩
 . rw [hpr] at hk
   obtain ⟨dv, a, b⟩ := P.rq k hk
   refine ⟨dv, ?_, ?_⟩
   . by_cases e : k = no
     . subst e; rw [j0]; exact a
     . rw [z7 _ _ e]; exact a
   . rw [hpr, b]
     by_cases e : k = no
     . subst e; rw [j0]; rfl
     . rw [z7 _ _ e]; rfl
 . rw [hpr] at hk
   obtain ⟨cs', a, b⟩ := P.pcs k hk
   refine ⟨cs', ?_, ?_⟩
   . have e0 : (G.putC (.snt p no) (.ws l.length (l.map Value.bool))).C (.pcs p k) = G.C (.pcs p k) := (show ups G.C (.snt p no) (.ws l.length (l.map Value.bool)) (.pcs p k) = _ from z7 _ _ (by simp))
     rw [e0, a]
     by_cases e : k = no
     . subst e; rw [j0]
     . rw [z7 _ _ e]
   . by_cases e : k = no
     . subst e; rw [j0]; exact b
     . rw [z7 _ _ e]; exact b
 . rw [hpr] at hk
   by_cases e : k = no
   . subst e
     rw [j0]; exact j0 _ _ _
   . rw [z7 _ _ e]
     exact (z7 _ _ (by simpa using e)).trans (P.snt k hk)
theorem Rep.pcs (R : Rep W G h) (hp : p < W.n) (hr : G.C (.rq p no) ≠ .no) : ∃ cs, Ws h 1 (G.S (.pcs p no)) (W.rq p no).pcs.length cs /\ Ls (RPc h G.ro) 1 (W.rq p no).pcs cs /\ G.C (.pcs p no) ≠ .no := by
 obtain ⟨cs, a, b⟩ := (R.rel.pr p hp).pcs no hr
 have := R.op.here (.pcs p no)
 rw [a] at this
 exact ⟨cs, this, b, by rw [a]; simp⟩
theorem Rep.snt (R : Rep W G h) (hp : p < W.n) (hr : G.C (.rq p no) ≠ .no) : Ws h 1 (G.S (.snt p no)) (W.rq p no).sent.length ((W.rq p no).sent.map .bool) /\ G.C (.snt p no) ≠ .no := by
 have a := (R.rel.pr p hp).snt no hr
 have := R.op.here (.snt p no)
 rw [a] at this
 exact ⟨this, by rw [a]; simp⟩
theorem Rep.setPcs (R : Rep W G h) (hp : p < W.n) (hr : G.C (.rq p no) ≠ .no) {l : List (Option By)} (H : Ls (RPc h' G.ro) 1 l cs) (A : Ws h' 1 (G.S (.pcs p no)) l.length cs) (s : Sm (fun b => vb (G.S (.pcs p no)) = some b) h h') : Nxt (W.setRq p no { W.rq p no with pcs := l }) G h h' := by
 obtain ⟨cs0, _, _, h0⟩ := R.pcs hp hr
 obtain ⟨O, X⟩ := R.op.putC (.pcs p no) (x := .ws l.length cs) (by simp) h0 s (fun c hc => J4 hc) A
 have hd := X.dr R.op
 refine ⟨_, _, _, ⟨O, (R.rel.mono0 hd).at (p := p) rfl rfl rfl (fun k hk => ⟨rfl, z7 _ _ hk⟩) (fun r hr => ⟨z7 _ _ (K6 (by simp [Ro.of]) hr), rfl, rfl⟩) rfl rfl fun hp => ?_⟩, X⟩
 show RelP (W.pr p) (ups W.rq p (ups (W.rq p) no { W.rq p no with pcs := l }) p) _ _ _
 rw [j0]
 exact ((R.rel.mono0 hd).pr p hp).pcsX hr H
theorem Rep.setSnt (R : Rep W G h) (hp : p < W.n) (hr : G.C (.rq p no) ≠ .no) {l : List Bool} (A : Ws h' 1 (G.S (.snt p no)) l.length (l.map .bool)) (s : Sm (fun b => vb (G.S (.snt p no)) = some b) h h') : Nxt (W.setRq p no { W.rq p no with sent := l }) G h h' := by
 obtain ⟨_, h0⟩ := R.snt hp hr
 obtain ⟨O, X⟩ := R.op.putC (.snt p no) (x := .ws l.length (l.map .bool)) (by simp) h0 s (fun c hc => J4 hc) A
 have hd := X.dr R.op
 refine ⟨_, _, _, ⟨O, (R.rel.mono0 hd).at (p := p) rfl rfl rfl (fun k hk => ⟨rfl, z7 _ _ hk⟩) (fun r hr => ⟨z7 _ _ (K6 (by simp [Ro.of]) hr), rfl, rfl⟩) rfl rfl fun hp => ?_⟩, X⟩
 show RelP (W.pr p) (ups W.rq p (ups (W.rq p) no { W.rq p no with sent := l }) p) _ _ _
 rw [j0]
 exact ((R.rel.mono0 hd).pr p hp).sntX hr
end
end
end Go.Arm



namespace Go.Arm
noncomputable section
open Go Go.X
section
variable {P : Program} {n : Nat} {T el : TypeId}
theorem ux9 {f : Fr} {x y : Operand} {m by_ k : Nat} {z : Value} (hT : P.underlying T = some (.slice el)) (hs : szOf P el = some k) (hb : byOf P el = some by_) (hz : zeroOf P el = some z) (hzl : (cellsL z).length = k) (hm : m * (by_ + 1) < 1099511627776)
  (hx : ev n f x = some (.int .i64 (m : Nat))) (hy : ev n f y = some (.int .i64 (m : Nat))) : evAl P n f (.makeSlice T x y) = some (.cells (zrep m (cellsL z)), .sl m m) := by
 have hm2 : m < 1099511627776 := by
  have : m * 1 ≤ m * (by_ + 1) := Nat.mul_le_mul_left _ (by omega)
  omega
 have e0 : evAl0 P n f (.makeSlice T x y) = some (.cells (zrep m (cellsL z)), .sl m m) := by
  unfold evAl0
  simp only [hx, hy, hT, hs, hb, hz]
  rw [if_pos ⟨by omega, by omega, by
   have h9 : ((m * (by_ + 1) : Nat) : Int) < ((1099511627776 : Nat) : Int) := Int.ofNat_lt.2 hm
   rw [Int.natCast_mul, Int.natCast_add] at h9
   exact h9, hzl⟩]
  simp only [Int.toNat_natCast]
 unfold evAl
 rw [e0]
 dsimp only
 rw [if_pos]
 show decide (m < u7) = true
 rw [decide_eq_true_eq]
 have : 1099511627776 < u7 := by decide
 omega
end
end
end Go.Arm
namespace Go.Arm
noncomputable section
open Go Go.X
section
variable {P : Program} {h : AH} {b n k : Nat} {T el : TypeId} {x y : Value}
theorem yw9 (i d : Nat) : bnd (some (.int .i64 (i : Nat))) d = some i := by unfold bnd; simp
theorem slk_lo (hT : P.underlying T = some (.slice el)) (hk : szOf P el = some 1) (hkn : k < n) (hn : n < u7) : aSl P T (.slice (some ⟨b, 0, none⟩) n n) (some (.int .i64 (k : Nat))) none none h = some (.slice (some ⟨b, k, none⟩) (n - k) (n - k)) := by
 have : aSlice P T (.slice (some ⟨b, 0, none⟩) n n) (some (.int .i64 (k : Nat))) none none h = some (.slice (some ⟨b, k, none⟩) (n - k) (n - k)) := by
  unfold aSlice
  rw [if_pos (show mxOk none none = true from rfl)]
  simp only [hT, hk]
  rw [if_neg (by omega)]
  have e1 : bnd none n = some n := rfl
  simp only [e1, yw9]
  rw [if_pos ⟨by omega, by omega, by omega, hn⟩, if_neg (by omega)]
  simp
 unfold aSl; rw [this]
theorem slk_hi (hT : P.underlying T = some (.slice el)) (hk : szOf P el = some 1) (hkn : k ≤ n) (h0 : 0 < n) (hn : n < u7) : aSl P T (.slice (some ⟨b, 0, none⟩) n n) none (some (.int .i64 (k : Nat))) none h = some (.slice (some ⟨b, 0, none⟩) k n) := by
 have : aSlice P T (.slice (some ⟨b, 0, none⟩) n n) none (some (.int .i64 (k : Nat))) none h = some (.slice (some ⟨b, 0, none⟩) k n) := by
  unfold aSlice
  rw [if_pos (show mxOk _ _ = true from rfl)]
  simp only [hT, hk]
  rw [if_neg (by omega)]
  have e1 : bnd none n = some n := rfl
  have e2 : bnd none 0 = some 0 := rfl
  simp only [e1, e2, yw9]
  rw [if_pos ⟨by omega, by omega, by omega, hn⟩, if_neg (by omega)]
  simp
 unfold aSl; rw [this]
def row2 (x y : Value) (k n : Nat) : List Value := List.replicate k x ++ List.replicate (n - k) y
theorem yu7 (hk : k ≤ n) : (row2 x y k n).length = n := by unfold row2; simp; omega
theorem yw1 {o m : Nat} (hT : P.underlying T = some (.slice el)) (hz : szOf P el = some 1) {u : Value} {s : Nat} {dc : Nat} (hc : Cl h b (row2 x y k n)) (hk : k ≤ n) (hx : x.oneCell' = true) (hl : X.lenV u = some s) (hf : aFirst 1 (min s (n - o)) u h = some (List.replicate m x)) (hm : m = min s (n - o)) (ho : o ≤ k) (hon : o < n) (hs : 0 < s) (hkm : o + m ≥ k) (hdc : dc ≠ 0) :
   ∃ h', aCopy P T (.slice (some ⟨b, o, none⟩) (n - o) dc) u h = some (.int .i64 (m : Nat), h') /\ Cl h' b (row2 x y (o + m) n) /\ Sm (fun q => q = b) h h' /\ h'.next = h.next := by
 obtain ⟨h2, e1, c1, s1, n1⟩ := Cl.setcs (o := o) (vs := List.replicate m x) (i := 0) hc (by rw [yu7 hk]; simp; omega) (fun v hv => by rw [(List.mem_replicate.1 hv).2]; exact hx)
 refine ⟨h2, ?_, ?_, s1, n1⟩
 . unfold aCopy
   simp only [hT, hl, hz, Option.getD_some, hf]
   rw [if_neg (by omega), if_neg (by omega), e1, hm]
 . have : row2 x y (o + m) n = (row2 x y k n).take (o + 0) ++ List.replicate m x ++ (row2 x y k n).drop (o + 0 + (List.replicate m x).length) := by
    unfold row2
    rw [Nat.add_zero, List.length_replicate, List.take_append_of_le_length (by simp; omega), List.take_replicate, Nat.min_eq_left ho, List.drop_append, List.length_replicate, List.drop_replicate, List.drop_replicate, show k - (o + m) = 0 by omega, <- List.replicate_append_replicate]
    simp
    omega
   rw [this]; exact c1
theorem jj3 (hc : Cl h b (row2 x y k n)) (hk : k ≤ n) {m c : Nat} (hm : m ≤ k) (hc0 : c ≠ 0) : aFirst 1 m (.slice (some ⟨b, 0, none⟩) k c) h = some (List.replicate m x) := by
 by_cases h0 : m = 0
 . subst h0; simp [aFirst]
 . have hcl := hc.cells (o := 0) m 0 (by rw [yu7 hk]; omega)
   have ht : ((row2 x y k n).drop (0 + 0)).take m = List.replicate m x := by
    unfold row2
    rw [List.drop_zero, List.take_append_of_le_length (by simp; omega), List.take_replicate, Nat.min_eq_left hm]
   rw [ht] at hcl
   unfold aFirst
   dsimp only
   rw [if_neg h0, if_neg (by omega), Nat.mul_one]
   exact hcl
theorem jv0 (n : Nat) (y : Value) : zrep n [y] = row2 x y 0 n := by
 unfold row2
 rw [List.replicate_zero, List.nil_append, Nat.sub_zero]
 induction n with
 | zero => rfl
 | succ n ih => rw [List.replicate_succ, <- ih]; rfl
end
end
end Go.Arm

