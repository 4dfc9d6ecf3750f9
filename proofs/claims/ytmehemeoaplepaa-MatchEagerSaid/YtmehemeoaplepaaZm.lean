/- Worlds of the program and walks of its functions. -/
import Derived.Test.YtmehemeoaplepaaZl
namespace Go.Proofs.Ytmehemeoaplepaa
noncomputable section
open Go Go.X Go.Arm Go.Mt
theorem ptr_one {α : Type} {f : α → Nat} (l : List α) : ∀ x, x ∈ l.map (fun k => ptr (f k)) → x.oneCell' = true := by
 intro x hx
 obtain ⟨y, _, rfl⟩ := List.mem_map.1 hx
 rfl
theorem evR_ct {P : Program} {n : Nat} {f : Fr} {h : AH} {k i : Nat} {T : TypeId} {a : Addr} {v u : Value} (hk : Nat.blt k n = true) (hi : Nat.blt i n = true) (hf : f k = .pointer (some a)) (hl : aLoad P T a h = some v) (h1 : f i = u) : evR P n f h [.cell k T, .tmp i] = some (.tuple ⟨[v, u]⟩) := by
 have e1 : evR1 P n f h (.cell k T) = some v := by unfold evR1; simp only [hk, hf]; exact hl
 have e2 : evR1 P n f h (.tmp i) = some u := by unfold evR1; simp only [hi, h1]
 unfold evR evRL evRL evRL
 rw [e1, e2]
theorem cm1_ok {W : Wd} {G : Gh} {h : AH} {p no mb : Nat} {e : En} {v : Value} (R : Rep W G h) (hp : p < W.n) (hr : G.C (.rq p no) ≠ .no) (hps : (W.rq p no).small) (c : Cl h mb [nv e.src, nv e.ctx, nv e.tag, nv e.size, nv e.parts, v]) :
  Arm.Calls Try.prog 92 [ptr (G.B (.rq p no)), ptr mb] h (fun r => r.1 = .bool ((W.rq p no).fits e) ∧ Sm Nix h r.2) := by
 refine Calls_of_W (n := 8) (fn := Try.f92) kr rfl rfl (Nat.le_of_ble_eq_true rfl) trivial ⟨.inr (by simp), rfl⟩ ?_
 have T0 : Sm Nix h h := .refl
 refine W_seq ?_
 refine W_region ?_
 refine L_g 1 kr ?_
 refine L_nil ?_
 refine W_seq ?_
 refine W_region ?_
 refine L_g 2 kr ?_
 refine L_ld _ rfl rfl kr (Cl.ldS (k := 5) (o := 0) c kr (by simp)) ?_
 refine L_c rfl rfl kr (fits_ok (e := e) (R.ext T0) hp hr hps) ?_
 rintro v36 h36 ⟨e36, t36⟩
 try dsimp only at e36
 try dsimp only at t36
 subst e36
 replace c := c.ext t36
 have T36 : Sm Nix h h36 := T0.ext t36
 have N36 := T36.nx
 have M36 := t36.nx
 refine L_g 1 kr ?_
 refine L_nil ?_
 refine W_ret ?_
 repeat first | with_reducible refine then_ret ?_ | with_reducible refine blk_ret ?_
 refine done_of (v := .bool ((W.rq p no).fits e)) (.inl rfl) kr ?_
 exact ⟨rfl, T36⟩
theorem st1_ok {W : Wd} {G : Gh} {h : AH} {p no rb : Nat} {e : En} {ty : TypeId} {u : Value} (R : Rep W G h) (hp : p < W.n) (hr : G.C (.rq p no) ≠ .no) (hps : (W.rq p no).small) (c : Cl h rb [ptr (G.B (.rq p no))]) :
  Arm.Calls Try.prog 55 [.agg ⟨[nv e.src, nv e.ctx, nv e.tag, nv e.size, nv e.parts, .iface ty u]⟩, ptr rb] h (fun r => r.1 = .bool ((W.rq p no).fits e) ∧ Sm Nix h r.2) := by
 refine Calls_of_W (n := 8) (fn := Try.f55) kr rfl rfl (Nat.le_of_ble_eq_true rfl) trivial ⟨.inr (by simp), rfl⟩ ?_
 have T0 : Sm Nix h h := .refl
 refine W_seq ?_
 refine W_region ?_
 refine L_nw (Al.cells [nv e.src, nv e.ctx, nv e.tag, nv e.size, nv e.parts, .iface ty u]) .ptr rfl rfl kr ?_
 have c37 : Cl (h.push (Al.cells [nv e.src, nv e.ctx, nv e.tag, nv e.size, nv e.parts, .iface ty u]).obj) h.next [nv e.src, nv e.ctx, nv e.tag, nv e.size, nv e.parts, .iface ty u] := Cl.new h _
 have t37 : Sm Nix h (h.push (Al.cells [nv e.src, nv e.ctx, nv e.tag, nv e.size, nv e.parts, .iface ty u]).obj) := .push h _
 have n37 : (h.push (Al.cells [nv e.src, nv e.ctx, nv e.tag, nv e.size, nv e.parts, .iface ty u]).obj).next = h.next + 1 := rfl
 generalize h.push (Al.cells [nv e.src, nv e.ctx, nv e.tag, nv e.size, nv e.parts, .iface ty u]).obj = h37 at c37 t37 n37 ⊢
 replace c := c.ext t37
 have T37 : Sm Nix h h37 := T0.ext t37
 have N37 := T37.nx
 refine L_g 1 kr ?_
 refine L_nil ?_
 refine W_seq ?_
 refine W_region ?_
 refine L_ld _ rfl rfl kr (c.ld (o := 0) kr rfl) ?_
 refine L_g 1 kr ?_
 refine L_ld _ rfl rfl kr (Cl.ldS (k := 5) (o := 0) c37 kr (by simp)) ?_
 refine L_c rfl rfl kr (fits_ok (e := e) (R.ext T37) hp hr hps) ?_
 rintro v38 h38 ⟨e38, t38⟩
 try dsimp only at e38
 try dsimp only at t38
 subst e38
 replace c := c.ext t38
 replace c37 := c37.ext t38
 have T38 : Sm Nix h h38 := T37.ext t38
 have N38 := T38.nx
 have M38 := t38.nx
 refine L_g 1 kr ?_
 refine L_nil ?_
 refine W_ret ?_
 repeat first | with_reducible refine then_ret ?_ | with_reducible refine blk_ret ?_
 refine done_of (v := .bool ((W.rq p no).fits e)) (.inl rfl) kr ?_
 exact ⟨rfl, T38⟩
theorem take_rq_no {W : Wd} {G : Gh} {h : AH} {p : Nat} {g : FuncId} {cap : Value} {pr : Nat → Bool} (R : Rep W G h) (hp : p < W.n) (hl : (W.pr p).rcvs.length < big) (hg : ∀ vs h, aCallX Try.prog g vs h = some [(.enter g vs, h)]) (hc : ∀ x, x ∈ (W.pr p).rcvs → ∀ h', Sm Nix h h' → Arm.Calls Try.prog g [ptr (G.B (.rq p x)), cap] h' (fun r => r.1 = .bool (pr x) ∧ Sm Nix h' r.2)) (hf : (W.pr p).rcvs.findIdx? pr = none) :
  Arm.Calls Try.prog 91 [.pointer (some ⟨G.B (.pr p), 5, none⟩), .func (.func g) ⟨[]⟩ ⟨[cap]⟩] h (fun r => r.1 = .tuple ⟨[.pointer none, .bool false]⟩ ∧ Sm Nix h r.2) := by
 refine Calls_of_W (n := 38) (fn := Try.f91) kr rfl rfl (Nat.le_of_ble_eq_true rfl) trivial ⟨.inr (by simp), rfl⟩ ?_
 have T0 : Sm Nix h h := .refl
 refine W_seq ?_
 refine W_region ?_
 refine L_g 2 kr ?_
 refine L_nil ?_
 refine W_seq ?_
 refine W_region ?_
 refine L_g 3 kr ?_
 refine L_ld _ rfl rfl kr (((R.ext T0).prL hp).ld (o := 5) kr rfl) ?_
 refine L_g 1 kr ?_
 have hix := ixf_rq (pr := pr) (l := (W.pr p).rcvs) ((R.ext T0).rcv hp).sd hl hg (fun i x hx => ⟨_, by rw [List.getElem?_map, hx]; rfl, fun h' t => hc x (List.mem_of_getElem? hx) _ (T0.ext t)⟩)
 rw [hf] at hix
 refine L_c rfl rfl kr (hix) ?_
 rintro v39 h39 ⟨e39, t39⟩
 try dsimp only at e39
 try dsimp only at t39
 subst e39
 have T39 : Sm Nix h h39 := T0.ext t39
 have N39 := T39.nx
 have M39 := t39.nx
 refine L_g 1 kr ?_
 refine L_nil ?_
 refine W_seq ?_
 refine W_seq ?_
 refine W_region ?_
 refine L_g 1 kr ?_
 refine L_i (-1) (0) (.bool true) rfl rfl kr kr rfl (by first | (simp; done) | (simp; omega)) ?_
 refine L_nil ?_
 refine W_cond true kr (fun _ => ?_) (fun e => by cases e)
 refine W_seq ?_
 refine W_region ?_
 refine L_g 1 kr ?_
 refine L_nil ?_
 refine W_seq ?_
 refine W_region ?_
 refine L_g 3 kr ?_
 refine L_nil ?_
 refine W_ret ?_
 repeat first | with_reducible refine then_ret ?_ | with_reducible refine blk_ret ?_
 refine done_of (v := .tuple ⟨[.pointer none, .bool false]⟩) (.inl rfl) kr ?_
 exact ⟨rfl, T39⟩
theorem take_rq {W : Wd} {G : Gh} {h : AH} {p i : Nat} {x : Nat} {g : FuncId} {cap : Value} {pr : Nat → Bool} (R : Rep W G h) (hp : p < W.n) (hl : (W.pr p).rcvs.length < big) (hg : ∀ vs h, aCallX Try.prog g vs h = some [(.enter g vs, h)]) (hc : ∀ x, x ∈ (W.pr p).rcvs → ∀ h', Sm Nix h h' → Arm.Calls Try.prog g [ptr (G.B (.rq p x)), cap] h' (fun r => r.1 = .bool (pr x) ∧ Sm Nix h' r.2)) (hf : (W.pr p).rcvs.findIdx? pr = some i) (hx : (W.pr p).rcvs[i]? = some x) :
  Arm.Calls Try.prog 91 [.pointer (some ⟨G.B (.pr p), 5, none⟩), .func (.func g) ⟨[]⟩ ⟨[cap]⟩] h (fun r => r.1 = .tuple ⟨[ptr (G.B (.rq p x)), .bool true]⟩ ∧ Nxt (W.setPr p { W.pr p with rcvs := (W.pr p).rcvs.eraseIdx i }) G h r.2) := by
 have hlt : i < (W.pr p).rcvs.length := (List.getElem?_eq_some_iff.1 hx).1
 refine Calls_of_W (n := 38) (fn := Try.f91) kr rfl rfl (Nat.le_of_ble_eq_true rfl) trivial ⟨.inr (by simp), rfl⟩ ?_
 have T0 : Sm Nix h h := .refl
 refine W_seq ?_
 refine W_region ?_
 refine L_g 2 kr ?_
 refine L_nil ?_
 refine W_seq ?_
 refine W_region ?_
 refine L_g 3 kr ?_
 refine L_ld _ rfl rfl kr (((R.ext T0).prL hp).ld (o := 5) kr rfl) ?_
 refine L_g 1 kr ?_
 have hix := ixf_rq (pr := pr) (l := (W.pr p).rcvs) ((R.ext T0).rcv hp).sd hl hg (fun i x hx => ⟨_, by rw [List.getElem?_map, hx]; rfl, fun h' t => hc x (List.mem_of_getElem? hx) _ (T0.ext t)⟩)
 rw [hf] at hix
 refine L_c rfl rfl kr (hix) ?_
 rintro v40 h40 ⟨e40, t40⟩
 try dsimp only at e40
 try dsimp only at t40
 subst e40
 have T40 : Sm Nix h h40 := T0.ext t40
 have N40 := T40.nx
 have M40 := t40.nx
 refine L_g 1 kr ?_
 refine L_nil ?_
 refine W_seq ?_
 refine W_seq ?_
 refine W_region ?_
 refine L_g 1 kr ?_
 refine L_i ((i : Int)) (0) (.bool false) rfl rfl kr kr rfl (by first | (simp; done) | (simp; omega)) ?_
 refine L_nil ?_
 refine W_cond false kr (fun e => by cases e) (fun _ => ?_)
 refine W_skip ?_
 refine W_seq ?_
 refine W_region ?_
 refine L_g 3 kr ?_
 refine L_ld _ rfl rfl kr (((R.ext T40).prL hp).ld (o := 5) kr rfl) ?_
 refine L_g 1 kr ?_
 obtain ⟨b9, o9, _, i9, l9⟩ := ((R.ext T40).rcv hp).sd.at (P := Try.prog) (T := 85) (el := 103) kr kr hlt .i64
 refine L_ix _ rfl rfl kr kr (i9) ?_
 refine L_ld _ rfl rfl kr (ld_cell kr (by have := l9 0 (by decide); rw [Nat.add_zero, Nat.mul_one, Nat.add_zero, List.getElem?_map, hx] at this; exact this)) ?_
 refine L_g 1 kr ?_
 refine L_nil ?_
 refine W_seq ?_
 refine W_region ?_
 refine L_g 4 kr ?_
 refine L_ld _ rfl rfl kr (((R.ext T40).prL hp).ld (o := 5) kr rfl) ?_
 refine L_c rfl rfl kr (clone_rq ((R.ext T40).rcv hp).sd (ptr_one _) hl) ?_
 rintro v41 h41 ⟨g41, t41, f41⟩
 dsimp only at g41 t41 f41
 obtain ⟨bq, oq, cq, nq, rfl, q1, q2, q3, q4⟩ := g41.open (by omega)
 have hbq : h.next ≤ bq := Nat.le_trans T40.nx (f41 bq rfl)
 have T41 : Sm Nix h h41 := T40.ext t41
 have N41 := T41.nx
 refine L_g 2 kr ?_
 refine L_i ((i : Int)) (1) (nv ((i + 1 : Nat) : Int)) rfl rfl kr kr rfl (inc_ok (by have : (W.pr p).rcvs.length < 1000000000 := hl; omega)) ?_
 refine L_c rfl rfl kr (del_rq q2 q1 g41.1 q3 q4 (ptr_one _) hlt hl) ?_
 rintro v42 h42 ⟨e42, g42, t42⟩
 dsimp only at e42 g42 t42
 subst e42
 have hlen : ((W.pr p).rcvs.eraseIdx i).length = (W.pr p).rcvs.length - 1 := List.length_eraseIdx_of_lt hlt
 rw [← hlen, erase_map] at g42
 have T42 : Sm Nix h h42 := T41.trans t42 (fun x hx => .inr (by have hx : x = bq := hx; omega))
 have N42 := T42.nx
 refine L_g 2 kr ?_
 obtain ⟨h43, e43, d43, t43, n43⟩ := ((R.ext T42).prL hp).store (P := Try.prog) (T := 85) (o := 5) (v := (.slice (some ⟨bq, oq, none⟩) ((W.pr p).rcvs.length - 1) open_)) kr rfl rfl (by simp [prC])
 have hpl := R.prLt hp
 have d2 := d43
 rw [← hlen] at d2
 have hN : Nxt (W.setPr p { W.pr p with rcvs := (W.pr p).rcvs.eraseIdx i }) G h h43 := R.setRcv hp (fun k hk => (R.rel.pr p hp).rcp k (List.mem_of_mem_eraseIdx hk)) g42 T42 (fun c hc => hc.elim) (fun c hc => by cases hc; exact .inr hbq) d2 t43
 refine L_st _ rfl rfl rfl kr kr (e43) ?_
 have T43 : Sm Nix h43 h43 := .refl
 refine L_nil ?_
 refine W_seq ?_
 refine W_region ?_
 refine L_g 3 kr ?_
 refine L_nil ?_
 refine W_ret ?_
 repeat first | with_reducible refine then_ret ?_ | with_reducible refine blk_ret ?_
 refine done_of (v := .tuple ⟨[ptr (G.B (.rq p x)), .bool true]⟩) (.inl rfl) kr ?_
 exact ⟨rfl, hN⟩
end
end Go.Proofs.Ytmehemeoaplepaa
namespace Go.Proofs.Ytmehemeoaplepaa
noncomputable section
open Go Go.X Go.Arm Go.Mt
theorem take_ms_no {W : Wd} {G : Gh} {h : AH} {p : Nat} {g : FuncId} {cap : Value} {pr : Ms → Bool} (R : Rep W G h) (hp : p < W.n) (hl : (W.pr p).msgs.length < big) (hg : ∀ vs h, aCallX Try.prog g vs h = some [(.enter g vs, h)]) (hc : ∀ (x : Ms) v, MsV h G.ro v x → ∀ h', Sm Nix h h' → Arm.Calls Try.prog g [.agg ⟨[nv x.en.src, nv x.en.ctx, nv x.en.tag, nv x.en.size, nv x.en.parts, v]⟩, cap] h' (fun r => r.1 = .bool (pr x) ∧ Sm Nix h' r.2)) (hf : (W.pr p).msgs.findIdx? pr = none) :
  Arm.Calls Try.prog 54 [.pointer (some ⟨G.B (.pr p), 4, none⟩), .func (.func g) ⟨[]⟩ ⟨[cap]⟩] h (fun r => r.1 = .tuple ⟨[.agg ⟨[.int .i64 0, .int .i64 0, .int .i64 0, .int .i64 0, .int .i64 0, .nilIface]⟩, .bool false]⟩ ∧ Sm Nix h r.2) := by
 obtain ⟨cs, g0, ls⟩ := R.msg hp
 have h1 := ls.oneMs
 refine Calls_of_W (n := 38) (fn := Try.f54) kr rfl rfl (Nat.le_of_ble_eq_true rfl) trivial ⟨.inr (by simp), rfl⟩ ?_
 have T0 : Sm Nix h h := .refl
 refine W_seq ?_
 refine W_region ?_
 refine L_nw (Al.cells [nv 0, nv 0, nv 0, nv 0, nv 0, .nilIface]) .ptr rfl rfl kr ?_
 have c44 : Cl (h.push (Al.cells [nv 0, nv 0, nv 0, nv 0, nv 0, .nilIface]).obj) h.next [nv 0, nv 0, nv 0, nv 0, nv 0, .nilIface] := Cl.new h _
 have t44 : Sm Nix h (h.push (Al.cells [nv 0, nv 0, nv 0, nv 0, nv 0, .nilIface]).obj) := .push h _
 have n44 : (h.push (Al.cells [nv 0, nv 0, nv 0, nv 0, nv 0, .nilIface]).obj).next = h.next + 1 := rfl
 generalize h.push (Al.cells [nv 0, nv 0, nv 0, nv 0, nv 0, .nilIface]).obj = h44 at c44 t44 n44 ⊢
 have T44 : Sm Nix h h44 := T0.ext t44
 have N44 := T44.nx
 refine L_g 1 kr ?_
 refine L_nil ?_
 refine W_seq ?_
 refine W_region ?_
 refine L_g 3 kr ?_
 refine L_ld _ rfl rfl kr (((R.ext T44).prL hp).ld (o := 4) kr rfl) ?_
 refine L_g 1 kr ?_
 have hix := ixf_ms (pr := pr) (l := (W.pr p).msgs) (g0.sd.ext T44) hl hg (fun i x hx => by
  obtain ⟨c, ⟨v, hv, rfl⟩, hcl, hcc⟩ := ls.get hx
  exact ⟨_, rfl, hcc, fun h' t => hc x v hv _ (T44.ext t)⟩)
 rw [hf] at hix
 refine L_c rfl rfl kr (hix) ?_
 rintro v45 h45 ⟨e45, t45⟩
 try dsimp only at e45
 try dsimp only at t45
 subst e45
 replace c44 := c44.ext t45
 have T45 : Sm Nix h h45 := T44.ext t45
 have N45 := T45.nx
 have M45 := t45.nx
 refine L_g 1 kr ?_
 refine L_nil ?_
 refine W_seq ?_
 refine W_seq ?_
 refine W_region ?_
 refine L_g 1 kr ?_
 refine L_i (-1) (0) (.bool true) rfl rfl kr kr rfl (by first | (simp; done) | (simp; omega)) ?_
 refine L_nil ?_
 refine W_cond true kr (fun _ => ?_) (fun e => by cases e)
 refine W_seq ?_
 refine W_region ?_
 refine L_nw (Al.cells [nv 0, nv 0, nv 0, nv 0, nv 0, .nilIface]) .ptr rfl rfl kr ?_
 have c46 : Cl (h45.push (Al.cells [nv 0, nv 0, nv 0, nv 0, nv 0, .nilIface]).obj) h45.next [nv 0, nv 0, nv 0, nv 0, nv 0, .nilIface] := Cl.new h45 _
 have t46 : Sm Nix h45 (h45.push (Al.cells [nv 0, nv 0, nv 0, nv 0, nv 0, .nilIface]).obj) := .push h45 _
 have n46 : (h45.push (Al.cells [nv 0, nv 0, nv 0, nv 0, nv 0, .nilIface]).obj).next = h45.next + 1 := rfl
 generalize h45.push (Al.cells [nv 0, nv 0, nv 0, nv 0, nv 0, .nilIface]).obj = h46 at c46 t46 n46 ⊢
 replace c44 := c44.ext t46
 have T46 : Sm Nix h h46 := T45.ext t46
 have N46 := T46.nx
 refine L_nil ?_
 refine W_seq ?_
 refine W_region ?_
 refine L_ld _ rfl rfl kr (Cl.allN (n := 6) c46 rfl kr) ?_
 obtain ⟨h47, e47, d47, t47, n47⟩ := Cl.storeN (P := Try.prog) (T := 117) (n := 6) (v := .agg ⟨[.int .i64 0, .int .i64 0, .int .i64 0, .int .i64 0, .int .i64 0, .nilIface]⟩) (cs := [.int .i64 0, .int .i64 0, .int .i64 0, .int .i64 0, .int .i64 0, .nilIface]) c44 rfl kr rfl rfl (List.all_eq_true.1 rfl)
 replace c46 := c46.sm t47 (show ¬ _ = _ by omega)
 replace c44 := d47
 have T47 : Sm Nix h h47 := T46.trans t47 (fun x hx => by have hx : x = h.next := hx; first | exact .inr (by omega) | exact .inl (by subst hx; first | rfl | exact .inl rfl | exact .inr rfl | exact .inr (.inl rfl) | exact .inr (.inr rfl) | (show _ < _; omega)))
 have N47 := T47.nx
 refine L_st _ rfl rfl rfl kr kr (e47) ?_
 refine L_g 1 kr ?_
 refine L_nil ?_
 refine W_ret ?_
 repeat first | with_reducible refine then_ret ?_ | with_reducible refine blk_ret ?_
 refine done_of (.inl rfl) (evR_ct kr kr (a := ⟨h.next, 0, none⟩) kr (Cl.allN (n := 6) c44 rfl kr) (u := .bool false) kr) ?_
 exact ⟨rfl, T47⟩
theorem take_ms {W : Wd} {G : Gh} {h : AH} {p i : Nat} {x : Ms} {g : FuncId} {cap : Value} {pr : Ms → Bool} (R : Rep W G h) (hp : p < W.n) (hl : (W.pr p).msgs.length < big) (hg : ∀ vs h, aCallX Try.prog g vs h = some [(.enter g vs, h)]) (hc : ∀ (x : Ms) v, MsV h G.ro v x → ∀ h', Sm Nix h h' → Arm.Calls Try.prog g [.agg ⟨[nv x.en.src, nv x.en.ctx, nv x.en.tag, nv x.en.size, nv x.en.parts, v]⟩, cap] h' (fun r => r.1 = .bool (pr x) ∧ Sm Nix h' r.2)) (hf : (W.pr p).msgs.findIdx? pr = some i) (hx : (W.pr p).msgs[i]? = some x) :
  Arm.Calls Try.prog 54 [.pointer (some ⟨G.B (.pr p), 4, none⟩), .func (.func g) ⟨[]⟩ ⟨[cap]⟩] h (fun r => ∃ v, MsV h G.ro v x ∧ r.1 = .tuple ⟨[.agg ⟨[nv x.en.src, nv x.en.ctx, nv x.en.tag, nv x.en.size, nv x.en.parts, v]⟩, .bool true]⟩ ∧ Nxt (W.setPr p { W.pr p with msgs := (W.pr p).msgs.eraseIdx i }) G h r.2) := by
 obtain ⟨cs, g0, ls⟩ := R.msg hp
 have h1 := ls.oneMs
 have hlt : i < (W.pr p).msgs.length := (List.getElem?_eq_some_iff.1 hx).1
 obtain ⟨c, ⟨v, hv, hce⟩, hcl, hcc⟩ := ls.get hx
 obtain ⟨ty, u, hvi⟩ := hv.iface
 subst hvi
 subst hce
 refine Calls_of_W (n := 38) (fn := Try.f54) kr rfl rfl (Nat.le_of_ble_eq_true rfl) trivial ⟨.inr (by simp), rfl⟩ ?_
 have T0 : Sm Nix h h := .refl
 refine W_seq ?_
 refine W_region ?_
 refine L_nw (Al.cells [nv 0, nv 0, nv 0, nv 0, nv 0, .nilIface]) .ptr rfl rfl kr ?_
 have c48 : Cl (h.push (Al.cells [nv 0, nv 0, nv 0, nv 0, nv 0, .nilIface]).obj) h.next [nv 0, nv 0, nv 0, nv 0, nv 0, .nilIface] := Cl.new h _
 have t48 : Sm Nix h (h.push (Al.cells [nv 0, nv 0, nv 0, nv 0, nv 0, .nilIface]).obj) := .push h _
 have n48 : (h.push (Al.cells [nv 0, nv 0, nv 0, nv 0, nv 0, .nilIface]).obj).next = h.next + 1 := rfl
 generalize h.push (Al.cells [nv 0, nv 0, nv 0, nv 0, nv 0, .nilIface]).obj = h48 at c48 t48 n48 ⊢
 have T48 : Sm Nix h h48 := T0.ext t48
 have N48 := T48.nx
 refine L_g 1 kr ?_
 refine L_nil ?_
 refine W_seq ?_
 refine W_region ?_
 refine L_g 3 kr ?_
 refine L_ld _ rfl rfl kr (((R.ext T48).prL hp).ld (o := 4) kr rfl) ?_
 refine L_g 1 kr ?_
 have hix := ixf_ms (pr := pr) (l := (W.pr p).msgs) (g0.sd.ext T48) hl hg (fun i x hx => by
  obtain ⟨c, ⟨v, hv, rfl⟩, hcl, hcc⟩ := ls.get hx
  exact ⟨_, rfl, hcc, fun h' t => hc x v hv _ (T48.ext t)⟩)
 rw [hf] at hix
 refine L_c rfl rfl kr (hix) ?_
 rintro v49 h49 ⟨e49, t49⟩
 try dsimp only at e49
 try dsimp only at t49
 subst e49
 replace c48 := c48.ext t49
 have T49 : Sm Nix h h49 := T48.ext t49
 have N49 := T49.nx
 have M49 := t49.nx
 refine L_g 1 kr ?_
 refine L_nil ?_
 refine W_seq ?_
 refine W_seq ?_
 refine W_region ?_
 refine L_g 1 kr ?_
 refine L_i ((i : Int)) (0) (.bool false) rfl rfl kr kr rfl (by first | (simp; done) | (simp; omega)) ?_
 refine L_nil ?_
 refine W_cond false kr (fun e => by cases e) (fun _ => ?_)
 refine W_skip ?_
 refine W_seq ?_
 refine W_region ?_
 refine L_g 3 kr ?_
 refine L_ld _ rfl rfl kr (((R.ext T49).prL hp).ld (o := 4) kr rfl) ?_
 refine L_g 1 kr ?_
 obtain ⟨b9, o9, _, i9, l9⟩ := (g0.sd.ext T49).at (P := Try.prog) (T := 82) (el := 117) kr kr hlt .i64
 refine L_ix _ rfl rfl kr kr (i9) ?_
 refine L_ld _ rfl rfl kr (ld_l (l := [nv x.en.src, nv x.en.ctx, nv x.en.tag, nv x.en.size, nv x.en.parts, .iface ty u]) kr (fun j hj => by rw [l9 j hj]; exact hcc j hj)) ?_
 refine L_nw (Al.cells [nv 0, nv 0, nv 0, nv 0, nv 0, .nilIface]) .ptr rfl rfl kr ?_
 have c50 : Cl (h49.push (Al.cells [nv 0, nv 0, nv 0, nv 0, nv 0, .nilIface]).obj) h49.next [nv 0, nv 0, nv 0, nv 0, nv 0, .nilIface] := Cl.new h49 _
 have t50 : Sm Nix h49 (h49.push (Al.cells [nv 0, nv 0, nv 0, nv 0, nv 0, .nilIface]).obj) := .push h49 _
 have n50 : (h49.push (Al.cells [nv 0, nv 0, nv 0, nv 0, nv 0, .nilIface]).obj).next = h49.next + 1 := rfl
 generalize h49.push (Al.cells [nv 0, nv 0, nv 0, nv 0, nv 0, .nilIface]).obj = h50 at c50 t50 n50 ⊢
 replace c48 := c48.ext t50
 have T50 : Sm Nix h h50 := T49.ext t50
 have N50 := T50.nx
 obtain ⟨h51, e51, d51, t51, n51⟩ := Cl.storeN (P := Try.prog) (T := 117) (n := 6) (v := .agg ⟨[nv x.en.src, nv x.en.ctx, nv x.en.tag, nv x.en.size, nv x.en.parts, .iface ty u]⟩) (cs := [nv x.en.src, nv x.en.ctx, nv x.en.tag, nv x.en.size, nv x.en.parts, .iface ty u]) c50 rfl kr rfl rfl (List.all_eq_true.1 rfl)
 replace c48 := c48.sm t51 (show ¬ _ = _ by omega)
 replace c50 := d51
 have T51 : Sm Nix h h51 := T50.trans t51 (fun x hx => by have hx : x = h49.next := hx; first | exact .inr (by omega) | exact .inl (by subst hx; first | rfl | exact .inl rfl | exact .inr rfl | exact .inr (.inl rfl) | exact .inr (.inr rfl) | (show _ < _; omega)))
 have N51 := T51.nx
 refine L_st _ rfl rfl rfl kr kr (e51) ?_
 refine L_nil ?_
 refine W_seq ?_
 refine W_region ?_
 refine L_g 4 kr ?_
 refine L_ld _ rfl rfl kr (((R.ext T51).prL hp).ld (o := 4) kr rfl) ?_
 refine L_c rfl rfl kr (clone_ms (g0.sd.ext T51) h1 hl) ?_
 have Rb := (R.ext T51)
 have l4 := c48.lt
 have l8 := c50.lt
 rintro v52 h52 ⟨g52, t52, f52⟩
 dsimp only at g52 t52 f52
 obtain ⟨bq, oq, cq, nq, rfl, q1, q2, q3, q4⟩ := g52.open (by omega)
 have hbq : h51.next ≤ bq := f52 bq rfl
 replace c48 := c48.ext t52
 replace c50 := c50.ext t52
 have T52 : Sm Nix h51 h52 := t52
 have N52 := T52.nx
 refine L_g 2 kr ?_
 refine L_i ((i : Int)) (1) (nv ((i + 1 : Nat) : Int)) rfl rfl kr kr rfl (inc_ok (by have : (W.pr p).msgs.length < 1000000000 := hl; omega)) ?_
 refine L_c rfl rfl kr (del_ms q2 q1 g52.1 q3 q4 h1 hlt hl) ?_
 rintro v53 h53 ⟨e53, g53, t53⟩
 dsimp only at e53 g53 t53
 subst e53
 have hlen : ((W.pr p).msgs.eraseIdx i).length = (W.pr p).msgs.length - 1 := List.length_eraseIdx_of_lt hlt
 rw [← hlen] at g53
 have ls2 := (ls.erase i hlt).mono fun _ _ z => z.mono (R.op.dr (T51).of)
 replace c48 := c48.sm t53 (show ¬ _ = _ by omega)
 replace c50 := c50.sm t53 (show ¬ _ = _ by omega)
 have T53 : Sm Nix h51 h53 := T52.trans t53 (fun x hx => .inr (by have hx : x = bq := hx; omega))
 have N53 := T53.nx
 refine L_g 2 kr ?_
 obtain ⟨h54, e54, d54, t54, n54⟩ := ((Rb.ext T53).prL hp).store (P := Try.prog) (T := 82) (o := 4) (v := (.slice (some ⟨bq, oq, none⟩) ((W.pr p).msgs.length - 1) open_)) kr rfl rfl (by simp [prC])
 have hpl := R.prLt hp
 have d2 := d54
 rw [← hlen] at d2
 have hN : Nxt (W.setPr p { W.pr p with msgs := (W.pr p).msgs.eraseIdx i }) G h51 h54 := Rb.setMsg hp ls2 g53 T53 (fun c hc => hc.elim) (fun c hc => by cases hc; exact .inr hbq) d2 t54
 refine L_st _ rfl rfl rfl kr kr (e54) ?_
 replace c48 := c48.sm t54 (show ¬ _ = _ by omega)
 replace c50 := c50.sm t54 (show ¬ _ = _ by omega)
 obtain ⟨S9, C9, ro9, R9, Y9⟩ := hN
 have m4 : ¬ (Gh.mut ⟨G.B, S9, C9, ro9⟩) (h.next) ∧ ¬ (Gh.ro ⟨G.B, S9, C9, ro9⟩) (h.next) := ⟨fun hm => (Y9.mu _ hm).elim (R.op.new (by omega)) (fun e => by omega), fun hm => (Y9.ron _ hm).elim (R.op.newr (by omega)) (fun e => by omega)⟩
 have X9 := (Gx.of T51).trans Y9
 have T9 : Sm (Ow h ⟨G.B, S9, C9, ro9⟩) h54 h54 := .refl
 have N9 := T9.nx
 refine L_nil ?_
 refine W_seq ?_
 refine W_region ?_
 refine L_ld _ rfl rfl kr (Cl.allN (n := 6) c50 rfl kr) ?_
 obtain ⟨h55, e55, d55, t55, n55⟩ := Cl.storeN (P := Try.prog) (T := 117) (n := 6) (v := .agg ⟨[nv x.en.src, nv x.en.ctx, nv x.en.tag, nv x.en.size, nv x.en.parts, .iface ty u]⟩) (cs := [nv x.en.src, nv x.en.ctx, nv x.en.tag, nv x.en.size, nv x.en.parts, .iface ty u]) c48 rfl kr rfl rfl (List.all_eq_true.1 rfl)
 replace c50 := c50.sm t55 (show ¬ _ = _ by omega)
 replace c48 := d55
 have T55 : Sm (Ow h ⟨G.B, S9, C9, ro9⟩) h54 h55 := T9.trans t55 (fun x hx => by have hx : x = h.next := hx; subst hx; first | exact .inr (by omega) | exact .inl ⟨by omega, m4.1, m4.2⟩ | exact .inl rfl)
 have N55 := T55.nx
 refine L_st _ rfl rfl rfl kr kr (e55) ?_
 refine L_g 1 kr ?_
 refine L_nil ?_
 refine W_ret ?_
 repeat first | with_reducible refine then_ret ?_ | with_reducible refine blk_ret ?_
 refine done_of (.inl rfl) (evR_ct kr kr (a := ⟨h.next, 0, none⟩) kr (Cl.allN (n := 6) c48 rfl kr) (u := .bool true) kr) ?_
 exact ⟨_, hv, rfl, S9, C9, ro9, R9.ow T55, X9.ow T55⟩
end
end Go.Proofs.Ytmehemeoaplepaa
namespace Go.Proofs.Ytmehemeoaplepaa
noncomputable section
open Go Go.X Go.Arm Go.Mt
theorem cl_sdk {h : AH} {b : Nat} {cs : List Value} (k : Nat) (hc : Arm.Cl h b cs) (hn : cs.length = k) : Sd h k (.slice (some ⟨b, 0, none⟩) 1 1) 1 cs := by
 obtain ⟨h1, c, op, h2, h3⟩ := hc
 exact ⟨by omega, .inr ⟨b, 0, 1, c, cs.length, op, false, by decide, by decide, rfl, h1, h2, by omega, fun j hj => by rw [Nat.zero_add]; exact h3 j hj⟩⟩
theorem putq_rq {W : Wd} {G : Gh} {h : AH} {p no : Nat} (R : Rep W G h) (hp : p < W.n) (hr : G.C (.rq p no) ≠ .no) (hl : (W.pr p).rcvs.length < big) :
  Arm.Calls Try.prog 57 [.pointer (some ⟨G.B (.pr p), 5, none⟩), ptr (G.B (.rq p no))] h (fun r => Nxt (W.setPr p { W.pr p with rcvs := (W.pr p).rcvs ++ [no] }) G h r.2) := by
 have hl : (W.pr p).rcvs.length < 1000000000 := hl
 refine Calls_of_W (n := 14) (fn := Try.f57) kr rfl rfl (Nat.le_of_ble_eq_true rfl) trivial ⟨.inr (by simp), rfl⟩ ?_
 have T0 : Sm Nix h h := .refl
 refine W_region ?_
 refine L_g 4 kr ?_
 refine L_ld _ rfl rfl kr (((R.ext T0).prL hp).ld (o := 5) kr rfl) ?_
 refine L_g 1 kr ?_
 refine L_nw (Al.cells [ptr (G.B (.rq p no))]) (.sl 1 1) rfl rfl kr ?_
 have c56 : Cl (h.push (Al.cells [ptr (G.B (.rq p no))]).obj) h.next [ptr (G.B (.rq p no))] := Cl.new h _
 have t56 : Sm Nix h (h.push (Al.cells [ptr (G.B (.rq p no))]).obj) := .push h _
 have n56 : (h.push (Al.cells [ptr (G.B (.rq p no))]).obj).next = h.next + 1 := rfl
 generalize h.push (Al.cells [ptr (G.B (.rq p no))]).obj = h56 at c56 t56 n56 ⊢
 have T56 : Sm Nix h h56 := T0.ext t56
 have N56 := T56.nx
 have g0 := (R.ext T56).rcv hp
 obtain ⟨v57, h57, e57, g57, t57, f57⟩ := g0.append (P := Try.prog) (sT := 85) (xT := 85) (el := 103) (by_ := 8) (z := .pointer none) (m := 1) (ds := [ptr (G.B (.rq p no))]) kr kr kr kr kr rfl (by decide) (c56.sd rfl) (List.all_eq_true.1 rfl) (by omega)
 obtain ⟨va, vc, rfl⟩ := g57.sd.form
 refine L_bi (.slice va ((W.pr p).rcvs.length + 1) vc) h57 rfl rfl kr (vs := [G.S (.rcv p), .slice (some ⟨h.next, 0, none⟩) 1 1]) kr (bi_append e57) ?_
 replace c56 := c56.lt
 have T57 : Sm (fun c => vb (G.S (.rcv p)) = some c) h56 h57 := t57
 have N57 := T57.nx
 refine L_g 2 kr ?_
 have Rb := R.ext T56
 have hnw : ¬ vb (G.S (.rcv p)) = some (G.B (.pr p)) := fun e => Rb.op.ne (r := .rcv p) (r' := .pr p) (by rw [(Rb.rel.pr p hp).rcv]; simp) (by rw [(Rb.rel.pr p hp).pr]; simp) (by simp) (vb_vbx e) rfl
 obtain ⟨h58, e58, d58, t58, n58⟩ := ((Rb.prL hp).sm T57 hnw).store (P := Try.prog) (T := 85) (o := 5) (v := .slice va ((W.pr p).rcvs.length + 1) vc) kr rfl rfl (by simp [prC])
 have hlen : ((W.pr p).rcvs ++ [no]).length = (W.pr p).rcvs.length + 1 := by simp
 rw [← hlen] at d58
 have hN : Nxt (W.setPr p { W.pr p with rcvs := (W.pr p).rcvs ++ [no] }) G h56 h58 := Rb.setRcv hp (fun k hk => by rcases List.mem_append.1 hk with hk | hk; exact (R.rel.pr p hp).rcp k hk; cases List.mem_singleton.1 hk; exact hr) (by rw [hlen]; rw [List.map_append]; exact g57) T57 (fun c hc => .inl hc) (fun c hc => by rw [hlen] at hc; exact f57 c hc) d58 t58
 refine L_st _ rfl rfl rfl kr kr (e58) ?_
 have T58 : Sm Nix h58 h58 := .refl
 refine L_nil ?_
 repeat with_reducible refine blk_norm ?_
 refine done_of (v := .tuple ⟨[]⟩) (.inr rfl) kr ?_
 exact Nxt.pre T56 hN
theorem putq_ms {W : Wd} {G : Gh} {h : AH} {p : Nat} {m : Ms} {ty : TypeId} {u : Value} (R : Rep W G h) (hp : p < W.n) (hv : MsV h G.ro (.iface ty u) m) (hl : (W.pr p).msgs.length < big) :
  Arm.Calls Try.prog 93 [.pointer (some ⟨G.B (.pr p), 4, none⟩), .agg ⟨[nv m.en.src, nv m.en.ctx, nv m.en.tag, nv m.en.size, nv m.en.parts, .iface ty u]⟩] h (fun r => Nxt (W.setPr p { W.pr p with msgs := (W.pr p).msgs ++ [m] }) G h r.2) := by
 have hl : (W.pr p).msgs.length < 1000000000 := hl
 refine Calls_of_W (n := 14) (fn := Try.f93) kr rfl rfl (Nat.le_of_ble_eq_true rfl) trivial ⟨.inr (by simp), rfl⟩ ?_
 have T0 : Sm Nix h h := .refl
 refine W_seq ?_
 refine W_region ?_
 refine L_nw (Al.cells [nv m.en.src, nv m.en.ctx, nv m.en.tag, nv m.en.size, nv m.en.parts, .iface ty u]) .ptr rfl rfl kr ?_
 have c59 : Cl (h.push (Al.cells [nv m.en.src, nv m.en.ctx, nv m.en.tag, nv m.en.size, nv m.en.parts, .iface ty u]).obj) h.next [nv m.en.src, nv m.en.ctx, nv m.en.tag, nv m.en.size, nv m.en.parts, .iface ty u] := Cl.new h _
 have t59 : Sm Nix h (h.push (Al.cells [nv m.en.src, nv m.en.ctx, nv m.en.tag, nv m.en.size, nv m.en.parts, .iface ty u]).obj) := .push h _
 have n59 : (h.push (Al.cells [nv m.en.src, nv m.en.ctx, nv m.en.tag, nv m.en.size, nv m.en.parts, .iface ty u]).obj).next = h.next + 1 := rfl
 generalize h.push (Al.cells [nv m.en.src, nv m.en.ctx, nv m.en.tag, nv m.en.size, nv m.en.parts, .iface ty u]).obj = h59 at c59 t59 n59 ⊢
 have T59 : Sm Nix h h59 := T0.ext t59
 have N59 := T59.nx
 refine L_nil ?_
 refine W_drawn kr ?_
 refine D_e (e := 7) (l := [0, 1, 2, 3, 4, 5, 6]) (s' := [0]) kr kr rfl kr Rk_nil ?_
 refine NS_b 4 kr ?_
 refine NS_ld _ rfl rfl kr kr kr (((R.ext T59).prL hp).ld (o := 4) kr rfl) ?_
 refine NS_ld _ rfl rfl kr kr kr (Cl.allN (n := 6) c59 rfl kr) ?_
 refine NS_newR (Al.cells [nv m.en.src, nv m.en.ctx, nv m.en.tag, nv m.en.size, nv m.en.parts, .iface ty u]) (.sl 1 1) rfl kr rfl rfl kr (Rk_1 rfl rfl (Rk_1 rfl rfl (Rk_1 rfl rfl (Rk_1 rfl rfl (Rk_ld _ rfl rfl rfl kr (((R.ext (T59.ext (.push h59 _))).prL hp).ld (o := 4) kr rfl) kr (Rk_ld _ rfl rfl rfl kr (Cl.allN (n := 6) (c59.ext (.push h59 _)) rfl kr) kr (Rk_1 rfl rfl Rk_nil))))))) ?_
 have c60 : Cl (h59.push (Al.cells [nv m.en.src, nv m.en.ctx, nv m.en.tag, nv m.en.size, nv m.en.parts, .iface ty u]).obj) h59.next [nv m.en.src, nv m.en.ctx, nv m.en.tag, nv m.en.size, nv m.en.parts, .iface ty u] := Cl.new h59 _
 have t60 : Sm Nix h59 (h59.push (Al.cells [nv m.en.src, nv m.en.ctx, nv m.en.tag, nv m.en.size, nv m.en.parts, .iface ty u]).obj) := .push h59 _
 have n60 : (h59.push (Al.cells [nv m.en.src, nv m.en.ctx, nv m.en.tag, nv m.en.size, nv m.en.parts, .iface ty u]).obj).next = h59.next + 1 := rfl
 generalize h59.push (Al.cells [nv m.en.src, nv m.en.ctx, nv m.en.tag, nv m.en.size, nv m.en.parts, .iface ty u]).obj = h60 at c60 t60 n60 ⊢
 replace c59 := c59.ext t60
 have T60 : Sm Nix h h60 := T59.ext t60
 have N60 := T60.nx
 refine NS_nil ?_
 obtain ⟨cs, g0, ls⟩ := (R.ext T60).msg hp
 obtain ⟨v61, h61, e61, g61, t61, f61⟩ := g0.append (P := Try.prog) (sT := 82) (xT := 82) (el := 117) (by_ := 56) (z := (.agg ⟨[.int .i64 0, .int .i64 0, .int .i64 0, .int .i64 0, .int .i64 0, .nilIface]⟩)) (m := 1) (ds := [nv m.en.src, nv m.en.ctx, nv m.en.tag, nv m.en.size, nv m.en.parts, .iface ty u]) kr kr kr kr kr rfl (by decide) (cl_sdk 6 c60 rfl) (List.all_eq_true.1 rfl) (by omega)
 obtain ⟨va, vc, rfl⟩ := g61.sd.form
 refine L_bi (.slice va ((W.pr p).msgs.length + 1) vc) h61 rfl rfl kr (vs := [G.S (.msg p), .slice (some ⟨h59.next, 0, none⟩) 1 1]) kr (bi_append e61) ?_
 replace c59 := c59.lt
 replace c60 := c60.lt
 have T61 : Sm (fun c => vb (G.S (.msg p)) = some c) h60 h61 := t61
 have N61 := T61.nx
 refine L_nil ⟨rfl, ?_⟩
 refine D_e (e := 10) (l := [8, 9]) (s' := []) kr kr rfl kr (Rk_noRead kr) ?_
 refine NS_b 2 kr ?_
 refine NS_nil ?_
 have Rb := R.ext T60
 have hnw : ¬ vb (G.S (.msg p)) = some (G.B (.pr p)) := fun e => Rb.op.ne (r := .msg p) (r' := .pr p) (by obtain ⟨cs, e, _⟩ := (Rb.rel.pr p hp).msg; rw [e]; simp) (by rw [(Rb.rel.pr p hp).pr]; simp) (by simp) (vb_vbx e) rfl
 obtain ⟨h62, e62, d62, t62, n62⟩ := ((Rb.prL hp).sm T61 hnw).store (P := Try.prog) (T := 82) (o := 4) (v := .slice va ((W.pr p).msgs.length + 1) vc) kr rfl rfl (by simp [prC])
 have hlen : ((W.pr p).msgs ++ [m]).length = (W.pr p).msgs.length + 1 := by simp
 rw [← hlen] at d62
 have hN : Nxt (W.setPr p { W.pr p with msgs := (W.pr p).msgs ++ [m] }) G h60 h62 := Rb.setMsg hp (ls.app (Ls.one ⟨_, hv.mono (R.op.dr (T60).of), rfl⟩ rfl)) (by rw [hlen]; exact g61) T61 (fun c hc => .inl hc) (fun c hc => by rw [hlen] at hc; exact f61 c hc) d62 t62
 refine L_st _ rfl rfl rfl kr kr (e62) ?_
 have T62 : Sm Nix h62 h62 := .refl
 refine L_nil ⟨rfl, ?_⟩
 refine D_l (l := []) kr kr Rk_nil ?_
 refine NS_nil ?_
 repeat with_reducible refine blk_norm ?_
 refine done_of (v := .tuple ⟨[]⟩) (.inr rfl) kr ?_
 exact Nxt.pre T60 hN
end
end Go.Proofs.Ytmehemeoaplepaa
namespace Go.Proofs.Ytmehemeoaplepaa
noncomputable section
open Go Go.X Go.Arm Go.Mt
theorem kset_map {κ : Type} [DecidableEq κ] (f : Nat → Value) (l : List (κ × Nat)) (k : κ) (n : Nat) : kset (l.map fun e => (e.1, f e.2)) k (f n) = (kset l k n).map fun e => (e.1, f e.2) := by
 induction l with
 | nil => rfl
 | cons x l ih =>
  simp only [List.map_cons]
  unfold kset
  split
  · rfl
  · rw [List.map_cons, ih]
theorem kset_mem {κ β : Type} [DecidableEq κ] {l : List (κ × β)} {k : κ} {n : β} {x : κ × β} (h : x ∈ kset l k n) : x ∈ l ∨ x.2 = n := by
 induction l with
 | nil => simp [kset] at h; exact .inr (by rw [h])
 | cons y l ih =>
  unfold kset at h
  split at h
  · rcases List.mem_cons.1 h with h | h
    · exact .inr (by rw [h])
    · exact .inl (List.mem_cons_of_mem _ h)
  · rcases List.mem_cons.1 h with h | h
    · exact .inl (by rw [h]; simp)
    · exact (ih h).imp (List.mem_cons_of_mem _) id
theorem _root_.Go.Arm.Dr.mono0 {h h' : AH} {ro ro' : Nat → Prop} {v : Value} {d : By} (H : Dr h ro v d) (f : ∀ v d, Dr h ro v d → Dr h' ro' v d) : Dr h' ro' v d := f v d H
set_option maxHeartbeats 1000000 in
theorem match_ok {W : Wd} {G : Gh} {h : AH} {p no : Nat} {m : Ms} {W' : Wd} {v : Value} (R : Rep W G h) (hp : p < W.n) (hr : G.C (.rq p no) ≠ .no) (hv : MsV h G.ro v m) (he : W.mtch p no m = some W') :
  Arm.Calls Try.prog 56 [ptr (G.B .wd), nv (p : Int), ptr (G.B (.rq p no)), .agg ⟨[nv m.en.src, nv m.en.ctx, nv m.en.tag, nv m.en.size, nv m.en.parts, v]⟩] h (fun r => Nxt W' G h r.2) := by
 cases m with
 | eager e d =>
  obtain ⟨dv, hd, rfl⟩ := hv
  obtain ⟨da, dc, rfl⟩ := hd.1.form
  unfold Wd.mtch at he
  dsimp only [Ms.en] at he ⊢
  split at he
  · rename_i hcond
    obtain ⟨hl, h0⟩ := hcond
    unfold Wd.put at he
    split at he
    · rename_i hlw
      obtain rfl := Option.some.inj he
      clear he
      rw [← Wd.setRq_setRq W p no { W.rq p no with st := ⟨e.src, e.tag, e.size, 0⟩ }] at hlw ⊢
      refine Calls_of_W (n := 70) (fn := Try.f56) kr rfl rfl (Nat.le_of_ble_eq_true rfl) trivial ⟨.inr (by simp), rfl⟩ ?_
      have T0 : Sm Nix h h := .refl
      refine W_seq ?_
      refine W_region ?_
      refine L_nw (Al.cells [nv e.src, nv e.ctx, nv e.tag, nv e.size, nv e.parts, .iface Tys.e (.agg ⟨[nv e.src, nv e.ctx, nv e.tag, nv e.size, nv e.parts, .slice da (List.map bv d).length dc]⟩)]) .ptr rfl rfl kr ?_
      have m63 : ¬ (Gh.mut G) h.next ∧ ¬ (Gh.ro G) h.next := ⟨(R.ext T0).op.new (Nat.le_refl _), (R.ext T0).op.newr (Nat.le_refl _)⟩
      have c63 : Cl (h.push (Al.cells [nv e.src, nv e.ctx, nv e.tag, nv e.size, nv e.parts, .iface Tys.e (.agg ⟨[nv e.src, nv e.ctx, nv e.tag, nv e.size, nv e.parts, .slice da (List.map bv d).length dc]⟩)]).obj) h.next [nv e.src, nv e.ctx, nv e.tag, nv e.size, nv e.parts, .iface Tys.e (.agg ⟨[nv e.src, nv e.ctx, nv e.tag, nv e.size, nv e.parts, .slice da (List.map bv d).length dc]⟩)] := Cl.new h _
      have t63 : Sm Nix h (h.push (Al.cells [nv e.src, nv e.ctx, nv e.tag, nv e.size, nv e.parts, .iface Tys.e (.agg ⟨[nv e.src, nv e.ctx, nv e.tag, nv e.size, nv e.parts, .slice da (List.map bv d).length dc]⟩)]).obj) := .push h _
      have n63 : (h.push (Al.cells [nv e.src, nv e.ctx, nv e.tag, nv e.size, nv e.parts, .iface Tys.e (.agg ⟨[nv e.src, nv e.ctx, nv e.tag, nv e.size, nv e.parts, .slice da (List.map bv d).length dc]⟩)]).obj).next = h.next + 1 := rfl
      generalize h.push (Al.cells [nv e.src, nv e.ctx, nv e.tag, nv e.size, nv e.parts, .iface Tys.e (.agg ⟨[nv e.src, nv e.ctx, nv e.tag, nv e.size, nv e.parts, .slice da (List.map bv d).length dc]⟩)]).obj = h63 at c63 t63 n63 ⊢
      have T63 : Sm Nix h h63 := T0.ext t63
      have N63 := T63.nx
      refine L_nil ?_
      refine W_seq ?_
      refine W_region ?_
      refine L_g 3 kr ?_
      refine L_ld _ rfl rfl kr (c63.ld (o := 0) kr rfl) ?_
      refine L_g 2 kr ?_
      refine L_ld _ rfl rfl kr (c63.ld (o := 2) kr rfl) ?_
      refine L_g 2 kr ?_
      refine L_ld _ rfl rfl kr (c63.ld (o := 3) kr rfl) ?_
      refine L_g 3 kr ?_
      obtain ⟨dv9, hd9, c9⟩ := (R.ext T63).rqL hp hr
      replace c9 : Cl h63 (Gh.B G (.rq p no)) [nk (W.rq p no).no, nv (W.rq p no).peer, nv (W.rq p no).ctx, nv (W.rq p no).tag, nv (W.rq p no).room, .bool (W.rq p no).send, .bool (W.rq p no).sync, .bool (W.rq p no).pers, .bool (W.rq p no).act, .bool (W.rq p no).done, nk (W.rq p no).parts, nk (W.rq p no).size, dv9, G.S (.pcs p no), nk (W.rq p no).gone, G.S (.snt p no), .bool (W.rq p no).clr, nv (W.rq p no).st.src, nv (W.rq p no).st.tag, nv (W.rq p no).st.size, nv (W.rq p no).st.err] := c9
      obtain ⟨h64, e64, d64, t64, n64⟩ := c9.storeAt (P := Try.prog) (T := 43) (o := 17) (v := .agg ⟨[nv e.src, nv e.tag, nv e.size, nv 0]⟩) (vs := [nv e.src, nv e.tag, nv e.size, nv 0]) kr rfl (by simp) (List.all_eq_true.1 rfl)
      have N64 : Nxt (W.setRq p no { (W.rq p no) with st := ⟨e.src, e.tag, e.size, 0⟩ }) G h63 h64 := (R.ext T63).stRq hp hr (r := { (W.rq p no) with st := ⟨e.src, e.tag, e.size, 0⟩ }) hd9 d64 t64 rfl rfl rfl
      clear hd9
      refine L_st _ rfl rfl rfl kr kr (e64) ?_
      obtain ⟨S64, C64, ro64, R64, Y64⟩ := N64
      have X64 := ((Gx.refl).trans (Gx.of T63)).trans Y64
      have hr_64 := (Y64.keep _ hr).1
      have m63_64 : ¬ (Gh.mut ⟨Gh.B G, S64, C64, ro64⟩) (h.next) ∧ ¬ (Gh.ro ⟨Gh.B G, S64, C64, ro64⟩) (h.next) := ⟨fun hm => (Y64.mu _ hm).elim m63.1 (fun e => by have := c63.lt; omega), fun hm => (Y64.ron _ hm).elim m63.2 (fun e => by have := c63.lt; omega)⟩
      replace c63 := c63.sm Y64.sm m63.1
      have T64 : Sm (Ow h (⟨Gh.B G, S64, C64, ro64⟩ : Gh)) h64 h64 := .refl
      refine L_nil ?_
      refine W_seq ?_
      refine W_region ?_
      refine L_g 1 kr ?_
      refine L_ld _ rfl rfl kr (c63.ld (o := 5) kr rfl) ?_
      refine L_nil ?_
      refine W_block ?_
      refine W_seq ?_
      refine W_region ?_
      refine L_g 3 kr ?_
      refine L_nil ?_
      refine W_cond true kr (fun _ => ?_) (fun e => by cases e)
      refine W_seq ?_
      refine W_region ?_
      refine L_nw (Al.cells [nv 0, nv 0, nv 0, nv 0, nv 0, .slice none 0 0]) .ptr rfl rfl kr ?_
      have m65 : ¬ (Gh.mut (⟨Gh.B G, S64, C64, ro64⟩ : Gh)) h64.next ∧ ¬ (Gh.ro (⟨Gh.B G, S64, C64, ro64⟩ : Gh)) h64.next := ⟨(R64.ow T64).op.new (Nat.le_refl _), (R64.ow T64).op.newr (Nat.le_refl _)⟩
      have l65_t7 := c63.lt
      have c65 : Cl (h64.push (Al.cells [nv 0, nv 0, nv 0, nv 0, nv 0, .slice none 0 0]).obj) h64.next [nv 0, nv 0, nv 0, nv 0, nv 0, .slice none 0 0] := Cl.new h64 _
      have t65 : Sm Nix h64 (h64.push (Al.cells [nv 0, nv 0, nv 0, nv 0, nv 0, .slice none 0 0]).obj) := .push h64 _
      have n65 : (h64.push (Al.cells [nv 0, nv 0, nv 0, nv 0, nv 0, .slice none 0 0]).obj).next = h64.next + 1 := rfl
      generalize h64.push (Al.cells [nv 0, nv 0, nv 0, nv 0, nv 0, .slice none 0 0]).obj = h65 at c65 t65 n65 ⊢
      replace c63 := c63.ext t65
      have T65 : Sm (Ow h (⟨Gh.B G, S64, C64, ro64⟩ : Gh)) h64 h65 := T64.ext t65
      have N65 := T65.nx
      obtain ⟨h66, e66, d66, t66, n66⟩ := Cl.storeN (P := Try.prog) (T := 144) (n := 6) (v := .agg ⟨[nv e.src, nv e.ctx, nv e.tag, nv e.size, nv e.parts, .slice da (List.map bv d).length dc]⟩) (cs := [nv e.src, nv e.ctx, nv e.tag, nv e.size, nv e.parts, .slice da (List.map bv d).length dc]) c65 rfl kr rfl rfl (List.all_eq_true.1 rfl)
      replace c63 := c63.sm t66 (show ¬ _ = _ by omega)
      replace c65 := d66
      have T66 : Sm (Ow h (⟨Gh.B G, S64, C64, ro64⟩ : Gh)) h64 h66 := T65.trans t66 (fun x hx => by have hx : x = h64.next := hx; subst hx; first | exact .inr (by omega) | exact .inl ⟨by omega, m65.1, m65.2⟩ | exact .inl rfl)
      have N66 := T66.nx
      refine L_st _ rfl rfl rfl kr kr (e66) ?_
      refine L_nil ?_
      refine W_seq ?_
      refine W_region ?_
      refine L_g 2 kr ?_
      refine L_ld _ rfl rfl kr (c65.ld (o := 5) kr rfl) ?_
      refine L_c rfl rfl kr (gets_ok (R64.ow T66) hp hr_64 (hd.mono0 (Gx.dr ((X64).ow T66) R.op)) hl (by rw [Wd.setRq_at]; exact h0)) ?_
      rintro v67 h67 N67
      dsimp only at N67
      obtain ⟨S67, C67, ro67, R67, Y67⟩ := N67
      have X67 := ((X64).ow T66).trans Y67
      have hr_67 := (Y67.keep _ hr_64).1
      have m63_64_67 : ¬ (Gh.mut ⟨Gh.B (⟨Gh.B G, S64, C64, ro64⟩ : Gh), S67, C67, ro67⟩) (h.next) ∧ ¬ (Gh.ro ⟨Gh.B (⟨Gh.B G, S64, C64, ro64⟩ : Gh), S67, C67, ro67⟩) (h.next) := ⟨fun hm => (Y67.mu _ hm).elim m63_64.1 (fun e => by have := c63.lt; omega), fun hm => (Y67.ron _ hm).elim m63_64.2 (fun e => by have := c63.lt; omega)⟩
      replace c63 := c63.sm Y67.sm m63_64.1
      have m65_67 : ¬ (Gh.mut ⟨Gh.B (⟨Gh.B G, S64, C64, ro64⟩ : Gh), S67, C67, ro67⟩) (h64.next) ∧ ¬ (Gh.ro ⟨Gh.B (⟨Gh.B G, S64, C64, ro64⟩ : Gh), S67, C67, ro67⟩) (h64.next) := ⟨fun hm => (Y67.mu _ hm).elim m65.1 (fun e => by have := c65.lt; omega), fun hm => (Y67.ron _ hm).elim m65.2 (fun e => by have := c65.lt; omega)⟩
      replace c65 := c65.sm Y67.sm m65.1
      have T67 : Sm (Ow h (⟨Gh.B (⟨Gh.B G, S64, C64, ro64⟩ : Gh), S67, C67, ro67⟩ : Gh)) h67 h67 := .refl
      refine L_nil ?_
      refine W_region ?_
      refine L_g 4 kr ?_
      refine L_ld _ rfl rfl kr (c63.ld (o := 0) kr rfl) ?_
      refine L_g 2 kr ?_
      refine L_c rfl rfl kr (put_ok (R67.ow T67) (x := .credit) rfl hlw) ?_
      rintro v68 h68 N68
      dsimp only at N68
      obtain ⟨S68, C68, ro68, R68, Y68⟩ := N68
      have X68 := ((X67).ow T67).trans Y68
      have hr_68 := (Y68.keep _ hr_67).1
      have m63_64_67_68 : ¬ (Gh.mut ⟨Gh.B (⟨Gh.B (⟨Gh.B G, S64, C64, ro64⟩ : Gh), S67, C67, ro67⟩ : Gh), S68, C68, ro68⟩) (h.next) ∧ ¬ (Gh.ro ⟨Gh.B (⟨Gh.B (⟨Gh.B G, S64, C64, ro64⟩ : Gh), S67, C67, ro67⟩ : Gh), S68, C68, ro68⟩) (h.next) := ⟨fun hm => (Y68.mu _ hm).elim m63_64_67.1 (fun e => by have := c63.lt; omega), fun hm => (Y68.ron _ hm).elim m63_64_67.2 (fun e => by have := c63.lt; omega)⟩
      replace c63 := c63.sm Y68.sm m63_64_67.1
      have m65_67_68 : ¬ (Gh.mut ⟨Gh.B (⟨Gh.B (⟨Gh.B G, S64, C64, ro64⟩ : Gh), S67, C67, ro67⟩ : Gh), S68, C68, ro68⟩) (h64.next) ∧ ¬ (Gh.ro ⟨Gh.B (⟨Gh.B (⟨Gh.B G, S64, C64, ro64⟩ : Gh), S67, C67, ro67⟩ : Gh), S68, C68, ro68⟩) (h64.next) := ⟨fun hm => (Y68.mu _ hm).elim m65_67.1 (fun e => by have := c65.lt; omega), fun hm => (Y68.ron _ hm).elim m65_67.2 (fun e => by have := c65.lt; omega)⟩
      replace c65 := c65.sm Y68.sm m65_67.1
      have T68 : Sm (Ow h (⟨Gh.B (⟨Gh.B (⟨Gh.B G, S64, C64, ro64⟩ : Gh), S67, C67, ro67⟩ : Gh), S68, C68, ro68⟩ : Gh)) h68 h68 := .refl
      refine L_nil ?_
      repeat with_reducible refine blk_norm ?_
      refine done_of (v := .tuple ⟨[]⟩) (.inr rfl) kr ?_
      have R9 := (R68.ow T68)
      rw [Wd.setRq_at] at R9
      exact ⟨_, _, _, R9, ((X68).ow T68)⟩
    · cases he
  · cases he
 | ask e q =>
  obtain rfl := hv
  unfold Wd.mtch at he
  dsimp only [Ms.en] at he ⊢
  unfold Wd.put at he
  split at he
  · rename_i hlw
    obtain rfl := Option.some.inj he
    clear he
    refine Calls_of_W (n := 70) (fn := Try.f56) kr rfl rfl (Nat.le_of_ble_eq_true rfl) trivial ⟨.inr (by simp), rfl⟩ ?_
    have T0 : Sm Nix h h := .refl
    refine W_seq ?_
    refine W_region ?_
    refine L_nw (Al.cells [nv e.src, nv e.ctx, nv e.tag, nv e.size, nv e.parts, .iface Tys.a (.agg ⟨[nv e.src, nv e.ctx, nv e.tag, nv e.size, nv e.parts, nv q]⟩)]) .ptr rfl rfl kr ?_
    have m69 : ¬ (Gh.mut G) h.next ∧ ¬ (Gh.ro G) h.next := ⟨(R.ext T0).op.new (Nat.le_refl _), (R.ext T0).op.newr (Nat.le_refl _)⟩
    have c69 : Cl (h.push (Al.cells [nv e.src, nv e.ctx, nv e.tag, nv e.size, nv e.parts, .iface Tys.a (.agg ⟨[nv e.src, nv e.ctx, nv e.tag, nv e.size, nv e.parts, nv q]⟩)]).obj) h.next [nv e.src, nv e.ctx, nv e.tag, nv e.size, nv e.parts, .iface Tys.a (.agg ⟨[nv e.src, nv e.ctx, nv e.tag, nv e.size, nv e.parts, nv q]⟩)] := Cl.new h _
    have t69 : Sm Nix h (h.push (Al.cells [nv e.src, nv e.ctx, nv e.tag, nv e.size, nv e.parts, .iface Tys.a (.agg ⟨[nv e.src, nv e.ctx, nv e.tag, nv e.size, nv e.parts, nv q]⟩)]).obj) := .push h _
    have n69 : (h.push (Al.cells [nv e.src, nv e.ctx, nv e.tag, nv e.size, nv e.parts, .iface Tys.a (.agg ⟨[nv e.src, nv e.ctx, nv e.tag, nv e.size, nv e.parts, nv q]⟩)]).obj).next = h.next + 1 := rfl
    generalize h.push (Al.cells [nv e.src, nv e.ctx, nv e.tag, nv e.size, nv e.parts, .iface Tys.a (.agg ⟨[nv e.src, nv e.ctx, nv e.tag, nv e.size, nv e.parts, nv q]⟩)]).obj = h69 at c69 t69 n69 ⊢
    have T69 : Sm Nix h h69 := T0.ext t69
    have N69 := T69.nx
    refine L_nil ?_
    refine W_seq ?_
    refine W_region ?_
    refine L_g 3 kr ?_
    refine L_ld _ rfl rfl kr (c69.ld (o := 0) kr rfl) ?_
    refine L_g 2 kr ?_
    refine L_ld _ rfl rfl kr (c69.ld (o := 2) kr rfl) ?_
    refine L_g 2 kr ?_
    refine L_ld _ rfl rfl kr (c69.ld (o := 3) kr rfl) ?_
    refine L_g 3 kr ?_
    obtain ⟨dv9, hd9, c9⟩ := (R.ext T69).rqL hp hr
    replace c9 : Cl h69 (Gh.B G (.rq p no)) [nk (W.rq p no).no, nv (W.rq p no).peer, nv (W.rq p no).ctx, nv (W.rq p no).tag, nv (W.rq p no).room, .bool (W.rq p no).send, .bool (W.rq p no).sync, .bool (W.rq p no).pers, .bool (W.rq p no).act, .bool (W.rq p no).done, nk (W.rq p no).parts, nk (W.rq p no).size, dv9, G.S (.pcs p no), nk (W.rq p no).gone, G.S (.snt p no), .bool (W.rq p no).clr, nv (W.rq p no).st.src, nv (W.rq p no).st.tag, nv (W.rq p no).st.size, nv (W.rq p no).st.err] := c9
    obtain ⟨h70, e70, d70, t70, n70⟩ := c9.storeAt (P := Try.prog) (T := 43) (o := 17) (v := .agg ⟨[nv e.src, nv e.tag, nv e.size, nv 0]⟩) (vs := [nv e.src, nv e.tag, nv e.size, nv 0]) kr rfl (by simp) (List.all_eq_true.1 rfl)
    have N70 : Nxt (W.setRq p no { (W.rq p no) with st := ⟨e.src, e.tag, e.size, 0⟩ }) G h69 h70 := (R.ext T69).stRq hp hr (r := { (W.rq p no) with st := ⟨e.src, e.tag, e.size, 0⟩ }) hd9 d70 t70 rfl rfl rfl
    clear hd9
    refine L_st _ rfl rfl rfl kr kr (e70) ?_
    obtain ⟨S70, C70, ro70, R70, Y70⟩ := N70
    have X70 := ((Gx.refl).trans (Gx.of T69)).trans Y70
    have hr_70 := (Y70.keep _ hr).1
    have m69_70 : ¬ (Gh.mut ⟨Gh.B G, S70, C70, ro70⟩) (h.next) ∧ ¬ (Gh.ro ⟨Gh.B G, S70, C70, ro70⟩) (h.next) := ⟨fun hm => (Y70.mu _ hm).elim m69.1 (fun e => by have := c69.lt; omega), fun hm => (Y70.ron _ hm).elim m69.2 (fun e => by have := c69.lt; omega)⟩
    replace c69 := c69.sm Y70.sm m69.1
    have T70 : Sm (Ow h (⟨Gh.B G, S70, C70, ro70⟩ : Gh)) h70 h70 := .refl
    refine L_nil ?_
    refine W_seq ?_
    refine W_region ?_
    refine L_g 1 kr ?_
    refine L_ld _ rfl rfl kr (c69.ld (o := 5) kr rfl) ?_
    refine L_nil ?_
    refine W_block ?_
    refine W_seq ?_
    refine W_region ?_
    refine L_g 3 kr ?_
    refine L_nil ?_
    refine W_cond false kr (fun e => by cases e) (fun _ => ?_)
    refine W_seq ?_
    refine W_region ?_
    refine L_g 3 kr ?_
    refine L_nil ?_
    refine W_cond true kr (fun _ => ?_) (fun e => by cases e)
    refine W_seq ?_
    refine W_region ?_
    refine L_nw (Al.cells [nv 0, nv 0, nv 0, nv 0, nv 0, nv 0]) .ptr rfl rfl kr ?_
    have m71 : ¬ (Gh.mut (⟨Gh.B G, S70, C70, ro70⟩ : Gh)) h70.next ∧ ¬ (Gh.ro (⟨Gh.B G, S70, C70, ro70⟩ : Gh)) h70.next := ⟨(R70.ow T70).op.new (Nat.le_refl _), (R70.ow T70).op.newr (Nat.le_refl _)⟩
    have l71_t7 := c69.lt
    have c71 : Cl (h70.push (Al.cells [nv 0, nv 0, nv 0, nv 0, nv 0, nv 0]).obj) h70.next [nv 0, nv 0, nv 0, nv 0, nv 0, nv 0] := Cl.new h70 _
    have t71 : Sm Nix h70 (h70.push (Al.cells [nv 0, nv 0, nv 0, nv 0, nv 0, nv 0]).obj) := .push h70 _
    have n71 : (h70.push (Al.cells [nv 0, nv 0, nv 0, nv 0, nv 0, nv 0]).obj).next = h70.next + 1 := rfl
    generalize h70.push (Al.cells [nv 0, nv 0, nv 0, nv 0, nv 0, nv 0]).obj = h71 at c71 t71 n71 ⊢
    replace c69 := c69.ext t71
    have T71 : Sm (Ow h (⟨Gh.B G, S70, C70, ro70⟩ : Gh)) h70 h71 := T70.ext t71
    have N71 := T71.nx
    obtain ⟨h72, e72, d72, t72, n72⟩ := Cl.storeN (P := Try.prog) (T := 142) (n := 6) (v := .agg ⟨[nv e.src, nv e.ctx, nv e.tag, nv e.size, nv e.parts, nv q]⟩) (cs := [nv e.src, nv e.ctx, nv e.tag, nv e.size, nv e.parts, nv q]) c71 rfl kr rfl rfl (List.all_eq_true.1 rfl)
    replace c69 := c69.sm t72 (show ¬ _ = _ by omega)
    replace c71 := d72
    have T72 : Sm (Ow h (⟨Gh.B G, S70, C70, ro70⟩ : Gh)) h70 h72 := T71.trans t72 (fun x hx => by have hx : x = h70.next := hx; subst hx; first | exact .inr (by omega) | exact .inl ⟨by omega, m71.1, m71.2⟩ | exact .inl rfl)
    have N72 := T72.nx
    refine L_st _ rfl rfl rfl kr kr (e72) ?_
    refine L_nil ?_
    refine W_seq ?_
    refine W_drawn kr ?_
    refine D_e (e := 17) (l := [0, 1, 2, 3, 4, 5, 6, 7, 8, 9, 10, 11, 12, 13, 14, 15, 16]) (s' := []) kr kr rfl kr Rk_nil ?_
    refine NS_b 3 kr ?_
    refine NS_ld _ rfl rfl kr kr kr ((R70.ow T72).wdL.ld (o := 1) kr rfl) ?_
    refine NS_b 1 kr ?_
    obtain ⟨b1, o1, i1, l1⟩ := (R70.ow T72).prsAt (P := Try.prog) (T := 74) (el := 77) kr kr kr hp
    refine NS_ix _ rfl rfl kr kr kr kr (i1) ?_
    refine NS_ld _ rfl rfl kr kr kr (l1) ?_
    refine NS_b 2 kr ?_
    refine NS_ld _ rfl rfl kr kr kr (((R70.ow T72).prL hp).ld (o := 2) kr rfl) ?_
    refine NS_b 2 kr ?_
    refine NS_ld _ rfl rfl kr kr kr (c69.ld (o := 0) kr rfl) ?_
    refine NS_b 1 kr ?_
    refine NS_ld _ rfl rfl kr kr kr (c71.ld (o := 5) kr rfl) ?_
    refine NS_b 2 kr ?_
    refine NS_nil ?_
    have hE := (R70.ow T72).exs hp
    obtain ⟨h73, e73, mp73, t73, n73⟩ := hE.1.update (P := Try.prog) (T := 79) (el := 103) kr k_ori (e.src, q) (v := ptr (Gh.B (⟨Gh.B G, S70, C70, ro70⟩ : Gh) (.rq p no))) (y := ptr (Gh.B (⟨Gh.B G, S70, C70, ro70⟩ : Gh) (.rq p no))) rfl
    have e9 := kset_map (fun k => ptr (Gh.B (⟨Gh.B G, S70, C70, ro70⟩ : Gh) (.rq p k))) ((W.setRq p no { W.rq p no with st := ⟨e.src, e.tag, e.size, 0⟩ }).pr p).exps (e.src, q) no
    dsimp only at e9
    have mp973 : Mp h73 (Gh.B (⟨Gh.B G, S70, C70, ro70⟩ : Gh) (.exs p)) k2 Eq ((kset ((W.setRq p no { W.rq p no with st := ⟨e.src, e.tag, e.size, 0⟩ }).pr p).exps (e.src, q) no).map fun e => (e.1, ptr (Gh.B (⟨Gh.B G, S70, C70, ro70⟩ : Gh) (.rq p e.2)))) := e9 ▸ mp73
    have N73 : Nxt ((W.setRq p no { W.rq p no with st := ⟨e.src, e.tag, e.size, 0⟩ }).setPr p { (W.setRq p no { W.rq p no with st := ⟨e.src, e.tag, e.size, 0⟩ }).pr p with exps := kset ((W.setRq p no { W.rq p no with st := ⟨e.src, e.tag, e.size, 0⟩ }).pr p).exps (e.src, q) no }) (⟨Gh.B G, S70, C70, ro70⟩ : Gh) h72 h73 := (R70.ow T72).setExs hp (fun x hx => (kset_mem hx).elim (fun y => ((R70.ow T72).rel.pr p hp).exp x y) (fun y => by rw [y]; exact hr_70)) (mp973) (hE.2.update e73) t73
    refine L_mu _ rfl rfl rfl kr kr kr e73 ?_
    obtain ⟨S73, C73, ro73, R73, Y73⟩ := N73
    have X73 := ((X70).ow T72).trans Y73
    have hr_73 := (Y73.keep _ hr_70).1
    have m69_70_73 : ¬ (Gh.mut ⟨Gh.B (⟨Gh.B G, S70, C70, ro70⟩ : Gh), S73, C73, ro73⟩) (h.next) ∧ ¬ (Gh.ro ⟨Gh.B (⟨Gh.B G, S70, C70, ro70⟩ : Gh), S73, C73, ro73⟩) (h.next) := ⟨fun hm => (Y73.mu _ hm).elim m69_70.1 (fun e => by have := c69.lt; omega), fun hm => (Y73.ron _ hm).elim m69_70.2 (fun e => by have := c69.lt; omega)⟩
    replace c69 := c69.sm Y73.sm m69_70.1
    have m71_73 : ¬ (Gh.mut ⟨Gh.B (⟨Gh.B G, S70, C70, ro70⟩ : Gh), S73, C73, ro73⟩) (h70.next) ∧ ¬ (Gh.ro ⟨Gh.B (⟨Gh.B G, S70, C70, ro70⟩ : Gh), S73, C73, ro73⟩) (h70.next) := ⟨fun hm => (Y73.mu _ hm).elim m71.1 (fun e => by have := c71.lt; omega), fun hm => (Y73.ron _ hm).elim m71.2 (fun e => by have := c71.lt; omega)⟩
    replace c71 := c71.sm Y73.sm m71.1
    have T73 : Sm (Ow h (⟨Gh.B (⟨Gh.B G, S70, C70, ro70⟩ : Gh), S73, C73, ro73⟩ : Gh)) h73 h73 := .refl
    refine L_nil ⟨rfl, ?_⟩
    refine D_l (l := []) kr kr Rk_nil ?_
    refine NS_nil ?_
    refine W_region ?_
    refine L_g 4 kr ?_
    refine L_ld _ rfl rfl kr (c69.ld (o := 0) kr rfl) ?_
    refine L_g 1 kr ?_
    refine L_ld _ rfl rfl kr (c71.ld (o := 5) kr rfl) ?_
    refine L_g 2 kr ?_
    refine L_c rfl rfl kr (put_ok (R73.ow T73) (x := .clear q) rfl hlw) ?_
    rintro v74 h74 N74
    dsimp only at N74
    obtain ⟨S74, C74, ro74, R74, Y74⟩ := N74
    have X74 := ((X73).ow T73).trans Y74
    have hr_74 := (Y74.keep _ hr_73).1
    have m69_70_73_74 : ¬ (Gh.mut ⟨Gh.B (⟨Gh.B (⟨Gh.B G, S70, C70, ro70⟩ : Gh), S73, C73, ro73⟩ : Gh), S74, C74, ro74⟩) (h.next) ∧ ¬ (Gh.ro ⟨Gh.B (⟨Gh.B (⟨Gh.B G, S70, C70, ro70⟩ : Gh), S73, C73, ro73⟩ : Gh), S74, C74, ro74⟩) (h.next) := ⟨fun hm => (Y74.mu _ hm).elim m69_70_73.1 (fun e => by have := c69.lt; omega), fun hm => (Y74.ron _ hm).elim m69_70_73.2 (fun e => by have := c69.lt; omega)⟩
    replace c69 := c69.sm Y74.sm m69_70_73.1
    have m71_73_74 : ¬ (Gh.mut ⟨Gh.B (⟨Gh.B (⟨Gh.B G, S70, C70, ro70⟩ : Gh), S73, C73, ro73⟩ : Gh), S74, C74, ro74⟩) (h70.next) ∧ ¬ (Gh.ro ⟨Gh.B (⟨Gh.B (⟨Gh.B G, S70, C70, ro70⟩ : Gh), S73, C73, ro73⟩ : Gh), S74, C74, ro74⟩) (h70.next) := ⟨fun hm => (Y74.mu _ hm).elim m71_73.1 (fun e => by have := c71.lt; omega), fun hm => (Y74.ron _ hm).elim m71_73.2 (fun e => by have := c71.lt; omega)⟩
    replace c71 := c71.sm Y74.sm m71_73.1
    have T74 : Sm (Ow h (⟨Gh.B (⟨Gh.B (⟨Gh.B G, S70, C70, ro70⟩ : Gh), S73, C73, ro73⟩ : Gh), S74, C74, ro74⟩ : Gh)) h74 h74 := .refl
    refine L_nil ?_
    repeat with_reducible refine blk_norm ?_
    refine done_of (v := .tuple ⟨[]⟩) (.inr rfl) kr ?_
    exact ⟨_, _, _, (R74.ow T74), ((X74).ow T74)⟩
  · cases he
end
end Go.Proofs.Ytmehemeoaplepaa
namespace Go.Proofs.Ytmehemeoaplepaa
noncomputable section
open Go Go.X Go.Arm Go.Mt
theorem inc_int {x : Int} (h0 : -1000000000 < x) (h1 : x < 1000000000) : Value.int .i64 (IntKind.i64.wrap (x + 1)) = nv (x + 1) := by
 have : IntKind.i64.wrap (x + 1) = x + 1 := by rw [IntKind.wrap_i64]; omega
 rw [this]; rfl
theorem _root_.Go.Arm.Dr.ext {h h' : AH} {ro : Nat → Prop} {v : Value} {d : By} (H : Dr h ro v d) (s : Sm Nix h h') : Dr h' ro v d := ⟨H.1.ext s, H.2⟩
theorem find_lt {α : Type} {l : List α} {pr : α → Bool} {i : Nat} (h : l.findIdx? pr = some i) : i < l.length := by
 rw [List.findIdx?_eq_some_iff_getElem] at h
 exact h.1
theorem came_ok {W : Wd} {G : Gh} {h : AH} {p : Nat} {m : Ms} {W' : Wd} {v : Value} (R : Rep W G h) (hp : p < W.n) (hv : MsV h G.ro v m) (he : W.came p m = some W') :
   Arm.Calls Try.prog 90 [ptr (G.B .wd), nv (p : Int), .agg ⟨[nv m.en.src, nv m.en.ctx, nv m.en.tag, nv m.en.size, nv m.en.parts, v]⟩] h (fun r => Nxt W' G h r.2) := by
 obtain ⟨ty, u, rfl⟩ := hv.iface
 unfold Wd.came at he
 split at he
 · cases he
 · rename_i hc
   obtain ⟨hsm, hl⟩ := Classical.not_not.1 hc
   split at he
   · rename_i i hf
     obtain ⟨x, hx⟩ : ∃ x, (W.pr p).rcvs[i]? = some x := ⟨_, List.getElem?_eq_getElem (find_lt hf)⟩
     have hr := (R.rel.pr p hp).rcp x (List.mem_of_getElem? hx)
     rw [List.getD_eq_getElem?_getD, hx, Option.getD_some] at he
     refine Calls_of_W (n := 35) (fn := Try.f90) kr rfl rfl (Nat.le_of_ble_eq_true rfl) trivial ⟨.inr (by simp), rfl⟩ ?_
     have T0 : Sm Nix h h := .refl
     refine W_seq ?_
     refine W_region ?_
     refine L_nw (Al.cells [nv m.en.src, nv m.en.ctx, nv m.en.tag, nv m.en.size, nv m.en.parts, .iface ty u]) .ptr rfl rfl kr ?_
     have m75 : ¬ (Gh.mut G) h.next ∧ ¬ (Gh.ro G) h.next := ⟨(R.ext T0).op.new (Nat.le_refl _), (R.ext T0).op.newr (Nat.le_refl _)⟩
     have c75 : Cl (h.push (Al.cells [nv m.en.src, nv m.en.ctx, nv m.en.tag, nv m.en.size, nv m.en.parts, .iface ty u]).obj) h.next [nv m.en.src, nv m.en.ctx, nv m.en.tag, nv m.en.size, nv m.en.parts, .iface ty u] := Cl.new h _
     have t75 : Sm Nix h (h.push (Al.cells [nv m.en.src, nv m.en.ctx, nv m.en.tag, nv m.en.size, nv m.en.parts, .iface ty u]).obj) := .push h _
     have n75 : (h.push (Al.cells [nv m.en.src, nv m.en.ctx, nv m.en.tag, nv m.en.size, nv m.en.parts, .iface ty u]).obj).next = h.next + 1 := rfl
     generalize h.push (Al.cells [nv m.en.src, nv m.en.ctx, nv m.en.tag, nv m.en.size, nv m.en.parts, .iface ty u]).obj = h75 at c75 t75 n75 ⊢
     have T75 : Sm Nix h h75 := T0.ext t75
     have N75 := T75.nx
     refine L_nil ?_
     refine W_seq ?_
     refine W_region ?_
     refine L_g 3 kr ?_
     refine L_ld _ rfl rfl kr ((R.ext T75).wdL.ld (o := 1) kr rfl) ?_
     refine L_g 1 kr ?_
     obtain ⟨b1, o1, i1, l1⟩ := (R.ext T75).prsAt (P := Try.prog) (T := 74) (el := 77) kr kr kr hp
     refine L_ix _ rfl rfl kr kr (i1) ?_
     refine L_ld _ rfl rfl kr (l1) ?_
     refine L_g 1 kr ?_
     refine L_nil ?_
     refine W_seq ?_
     refine W_region ?_
     refine L_g 4 kr ?_
     refine L_c rfl rfl kr (take_rq (R.ext T75) hp (pr := fun no => (W.rq p no).fits m.en) hl (fun _ _ => rfl) (fun x hx h' t => cm1_ok (e := m.en) ((R.ext T75).ext t) hp ((R.rel.pr p hp).rcp x hx) (hsm x hx) (c75.ext t)) hf hx) ?_
     rintro v76 h76 ⟨e76, N76⟩
     dsimp only at e76 N76
     subst e76
     obtain ⟨S76, C76, ro76, R76, Y76⟩ := N76
     have X76 := ((Gx.refl).trans (Gx.of T75)).trans Y76
     have m75_76 : ¬ (Gh.mut ⟨Gh.B G, S76, C76, ro76⟩) (h.next) ∧ ¬ (Gh.ro ⟨Gh.B G, S76, C76, ro76⟩) (h.next) := ⟨fun hm => (Y76.mu _ hm).elim m75.1 (fun e => by have := c75.lt; omega), fun hm => (Y76.ron _ hm).elim m75.2 (fun e => by have := c75.lt; omega)⟩
     replace c75 := c75.sm Y76.sm m75.1
     have T76 : Sm (Ow h (⟨Gh.B G, S76, C76, ro76⟩ : Gh)) h76 h76 := .refl
     refine L_g 5 kr ?_
     refine L_nil ?_
     refine W_seq ?_
     refine W_region ?_
     refine L_g 1 kr ?_
     refine L_nil ?_
     refine W_cond true kr (fun _ => ?_) (fun e => by cases e)
     refine W_region ?_
     refine L_g 3 kr ?_
     refine L_ld _ rfl rfl kr (Cl.allN (n := 6) c75 rfl kr) ?_
     refine L_c rfl rfl kr (match_ok (v := .iface ty u) (R76.ow T76) hp (((((X76).ow T76)).keep _ hr).1) (hv.mono ((((X76).ow T76)).dr R.op)) he) ?_
     rintro v77 h77 N77
     dsimp only at N77
     obtain ⟨S77, C77, ro77, R77, Y77⟩ := N77
     have X77 := ((X76).ow T76).trans Y77
     have m75_76_77 : ¬ (Gh.mut ⟨Gh.B (⟨Gh.B G, S76, C76, ro76⟩ : Gh), S77, C77, ro77⟩) (h.next) ∧ ¬ (Gh.ro ⟨Gh.B (⟨Gh.B G, S76, C76, ro76⟩ : Gh), S77, C77, ro77⟩) (h.next) := ⟨fun hm => (Y77.mu _ hm).elim m75_76.1 (fun e => by have := c75.lt; omega), fun hm => (Y77.ron _ hm).elim m75_76.2 (fun e => by have := c75.lt; omega)⟩
     replace c75 := c75.sm Y77.sm m75_76.1
     have T77 : Sm (Ow h (⟨Gh.B (⟨Gh.B G, S76, C76, ro76⟩ : Gh), S77, C77, ro77⟩ : Gh)) h77 h77 := .refl
     refine L_nil ?_
     repeat with_reducible refine blk_norm ?_
     refine done_of (v := .tuple ⟨[]⟩) (.inr rfl) kr ?_
     exact ⟨_, _, _, (R77.ow T77), ((X77).ow T77)⟩
   · rename_i hf
     split at he
     · rename_i hl2
       obtain rfl := Option.some.inj he
       refine Calls_of_W (n := 35) (fn := Try.f90) kr rfl rfl (Nat.le_of_ble_eq_true rfl) trivial ⟨.inr (by simp), rfl⟩ ?_
       have T0 : Sm Nix h h := .refl
       refine W_seq ?_
       refine W_region ?_
       refine L_nw (Al.cells [nv m.en.src, nv m.en.ctx, nv m.en.tag, nv m.en.size, nv m.en.parts, .iface ty u]) .ptr rfl rfl kr ?_
       have m78 : ¬ (Gh.mut G) h.next ∧ ¬ (Gh.ro G) h.next := ⟨(R.ext T0).op.new (Nat.le_refl _), (R.ext T0).op.newr (Nat.le_refl _)⟩
       have c78 : Cl (h.push (Al.cells [nv m.en.src, nv m.en.ctx, nv m.en.tag, nv m.en.size, nv m.en.parts, .iface ty u]).obj) h.next [nv m.en.src, nv m.en.ctx, nv m.en.tag, nv m.en.size, nv m.en.parts, .iface ty u] := Cl.new h _
       have t78 : Sm Nix h (h.push (Al.cells [nv m.en.src, nv m.en.ctx, nv m.en.tag, nv m.en.size, nv m.en.parts, .iface ty u]).obj) := .push h _
       have n78 : (h.push (Al.cells [nv m.en.src, nv m.en.ctx, nv m.en.tag, nv m.en.size, nv m.en.parts, .iface ty u]).obj).next = h.next + 1 := rfl
       generalize h.push (Al.cells [nv m.en.src, nv m.en.ctx, nv m.en.tag, nv m.en.size, nv m.en.parts, .iface ty u]).obj = h78 at c78 t78 n78 ⊢
       have T78 : Sm Nix h h78 := T0.ext t78
       have N78 := T78.nx
       refine L_nil ?_
       refine W_seq ?_
       refine W_region ?_
       refine L_g 3 kr ?_
       refine L_ld _ rfl rfl kr ((R.ext T78).wdL.ld (o := 1) kr rfl) ?_
       refine L_g 1 kr ?_
       obtain ⟨b1, o1, i1, l1⟩ := (R.ext T78).prsAt (P := Try.prog) (T := 74) (el := 77) kr kr kr hp
       refine L_ix _ rfl rfl kr kr (i1) ?_
       refine L_ld _ rfl rfl kr (l1) ?_
       refine L_g 1 kr ?_
       refine L_nil ?_
       refine W_seq ?_
       refine W_region ?_
       refine L_g 4 kr ?_
       refine L_c rfl rfl kr (take_rq_no (R.ext T78) hp (pr := fun no => (W.rq p no).fits m.en) hl (fun _ _ => rfl) (fun x hx h' t => cm1_ok (e := m.en) ((R.ext T78).ext t) hp ((R.rel.pr p hp).rcp x hx) (hsm x hx) (c78.ext t)) hf) ?_
       rintro v79 h79 ⟨e79, t79⟩
       try dsimp only at e79
       try dsimp only at t79
       subst e79
       replace c78 := c78.ext t79
       have T79 : Sm Nix h h79 := T78.ext t79
       have N79 := T79.nx
       have M79 := t79.nx
       refine L_g 5 kr ?_
       refine L_nil ?_
       refine W_seq ?_
       refine W_region ?_
       refine L_g 1 kr ?_
       refine L_nil ?_
       refine W_cond false kr (fun e => by cases e) (fun _ => ?_)
       refine W_drawn kr ?_
       refine D_e (e := 4) (l := [0, 1, 2, 3]) (s' := []) kr kr rfl kr Rk_nil ?_
       refine NS_b 3 kr ?_
       refine NS_ld _ rfl rfl kr kr kr (Cl.allN (n := 6) c78 rfl kr) ?_
       refine NS_nil ?_
       refine L_c rfl rfl kr (putq_ms (R.ext T79) hp (hv.mono ((((Gx.refl).trans (Gx.of T79))).dr R.op)) hl2) ?_
       rintro v80 h80 N80
       dsimp only at N80
       obtain ⟨S80, C80, ro80, R80, Y80⟩ := N80
       have X80 := ((Gx.refl).trans (Gx.of T79)).trans Y80
       have m78_80 : ¬ (Gh.mut ⟨Gh.B G, S80, C80, ro80⟩) (h.next) ∧ ¬ (Gh.ro ⟨Gh.B G, S80, C80, ro80⟩) (h.next) := ⟨fun hm => (Y80.mu _ hm).elim m78.1 (fun e => by have := c78.lt; omega), fun hm => (Y80.ron _ hm).elim m78.2 (fun e => by have := c78.lt; omega)⟩
       replace c78 := c78.sm Y80.sm m78.1
       have T80 : Sm (Ow h (⟨Gh.B G, S80, C80, ro80⟩ : Gh)) h80 h80 := .refl
       refine L_nil ⟨rfl, ?_⟩
       refine D_l (l := []) kr kr Rk_nil ?_
       refine NS_nil ?_
       repeat with_reducible refine blk_norm ?_
       refine done_of (v := .tuple ⟨[]⟩) (.inr rfl) kr ?_
       exact ⟨_, _, _, (R80.ow T80), ((X80).ow T80)⟩
     · cases he
end
end Go.Proofs.Ytmehemeoaplepaa
namespace Go.Proofs.Ytmehemeoaplepaa
noncomputable section
open Go Go.X Go.Arm Go.Mt
theorem heager_ok {W : Wd} {G : Gh} {h : AH} {p : Nat} {f : Int} {e : En} {d : By} {W' : Wd} {da : Option Addr} {dc : Nat} (R : Rep W G h) (hp : p < W.n) (hd : Dr h G.ro (.slice da (List.map bv d).length dc) d) (he : W.came p (.eager e d) = some W') :
  Arm.Calls Try.prog 97 [.agg ⟨[nv e.src, nv e.ctx, nv e.tag, nv e.size, nv e.parts, .slice da (List.map bv d).length dc]⟩, ptr (G.B .wd), nv (p : Int), nv f] h (fun r => Nxt W' G h r.2) := by
 refine Calls_of_W (n := 16) (fn := Try.f97) kr rfl rfl (Nat.le_of_ble_eq_true rfl) trivial ⟨.inr (by simp), rfl⟩ ?_
 have T0 : Sm Nix h h := .refl
 refine W_seq ?_
 refine W_region ?_
 refine L_nw (Al.cells [nv e.src, nv e.ctx, nv e.tag, nv e.size, nv e.parts, .slice da (List.map bv d).length dc]) .ptr rfl rfl kr ?_
 have m81 : ¬ (Gh.mut G) h.next ∧ ¬ (Gh.ro G) h.next := ⟨(R.ext T0).op.new (Nat.le_refl _), (R.ext T0).op.newr (Nat.le_refl _)⟩
 have c81 : Cl (h.push (Al.cells [nv e.src, nv e.ctx, nv e.tag, nv e.size, nv e.parts, .slice da (List.map bv d).length dc]).obj) h.next [nv e.src, nv e.ctx, nv e.tag, nv e.size, nv e.parts, .slice da (List.map bv d).length dc] := Cl.new h _
 have t81 : Sm Nix h (h.push (Al.cells [nv e.src, nv e.ctx, nv e.tag, nv e.size, nv e.parts, .slice da (List.map bv d).length dc]).obj) := .push h _
 have n81 : (h.push (Al.cells [nv e.src, nv e.ctx, nv e.tag, nv e.size, nv e.parts, .slice da (List.map bv d).length dc]).obj).next = h.next + 1 := rfl
 generalize h.push (Al.cells [nv e.src, nv e.ctx, nv e.tag, nv e.size, nv e.parts, .slice da (List.map bv d).length dc]).obj = h81 at c81 t81 n81 ⊢
 have T81 : Sm Nix h h81 := T0.ext t81
 have N81 := T81.nx
 refine L_nil ?_
 refine W_region ?_
 refine L_g 3 kr ?_
 refine L_ld _ rfl rfl kr (Cl.ldS (k := 5) (o := 0) c81 kr (by simp)) ?_
 refine L_ld _ rfl rfl kr (Cl.allN (n := 6) c81 rfl kr) ?_
 refine L_g 2 kr ?_
 refine L_c rfl rfl kr (came_ok (m := .eager e d) (v := .iface Tys.e (.agg ⟨[nv e.src, nv e.ctx, nv e.tag, nv e.size, nv e.parts, .slice da (List.map bv d).length dc]⟩)) (R.ext T81) hp ⟨_, Dr.ext hd (by first | exact T0 | assumption), rfl⟩ he) ?_
 rintro v82 h82 N82
 dsimp only at N82
 obtain ⟨S82, C82, ro82, R82, Y82⟩ := N82
 have X82 := ((Gx.refl).trans (Gx.of T81)).trans Y82
 have m81_82 : ¬ (Gh.mut ⟨Gh.B G, S82, C82, ro82⟩) (h.next) ∧ ¬ (Gh.ro ⟨Gh.B G, S82, C82, ro82⟩) (h.next) := ⟨fun hm => (Y82.mu _ hm).elim m81.1 (fun e => by have := c81.lt; omega), fun hm => (Y82.ron _ hm).elim m81.2 (fun e => by have := c81.lt; omega)⟩
 replace c81 := c81.sm Y82.sm m81.1
 have T82 : Sm (Ow h (⟨Gh.B G, S82, C82, ro82⟩ : Gh)) h82 h82 := .refl
 refine L_nil ?_
 repeat with_reducible refine blk_norm ?_
 refine done_of (v := .tuple ⟨[]⟩) (.inr rfl) kr ?_
 exact ⟨_, _, _, (R82.ow T82), ((X82).ow T82)⟩
theorem hask_ok {W : Wd} {G : Gh} {h : AH} {p : Nat} {f : Int} {e : En} {q : Int} {W' : Wd} (R : Rep W G h) (hp : p < W.n) (he : W.came p (.ask e q) = some W') :
  Arm.Calls Try.prog 89 [.agg ⟨[nv e.src, nv e.ctx, nv e.tag, nv e.size, nv e.parts, nv q]⟩, ptr (G.B .wd), nv (p : Int), nv f] h (fun r => Nxt W' G h r.2) := by
 refine Calls_of_W (n := 16) (fn := Try.f89) kr rfl rfl (Nat.le_of_ble_eq_true rfl) trivial ⟨.inr (by simp), rfl⟩ ?_
 have T0 : Sm Nix h h := .refl
 refine W_seq ?_
 refine W_region ?_
 refine L_nw (Al.cells [nv e.src, nv e.ctx, nv e.tag, nv e.size, nv e.parts, nv q]) .ptr rfl rfl kr ?_
 have m83 : ¬ (Gh.mut G) h.next ∧ ¬ (Gh.ro G) h.next := ⟨(R.ext T0).op.new (Nat.le_refl _), (R.ext T0).op.newr (Nat.le_refl _)⟩
 have c83 : Cl (h.push (Al.cells [nv e.src, nv e.ctx, nv e.tag, nv e.size, nv e.parts, nv q]).obj) h.next [nv e.src, nv e.ctx, nv e.tag, nv e.size, nv e.parts, nv q] := Cl.new h _
 have t83 : Sm Nix h (h.push (Al.cells [nv e.src, nv e.ctx, nv e.tag, nv e.size, nv e.parts, nv q]).obj) := .push h _
 have n83 : (h.push (Al.cells [nv e.src, nv e.ctx, nv e.tag, nv e.size, nv e.parts, nv q]).obj).next = h.next + 1 := rfl
 generalize h.push (Al.cells [nv e.src, nv e.ctx, nv e.tag, nv e.size, nv e.parts, nv q]).obj = h83 at c83 t83 n83 ⊢
 have T83 : Sm Nix h h83 := T0.ext t83
 have N83 := T83.nx
 refine L_nil ?_
 refine W_region ?_
 refine L_g 3 kr ?_
 refine L_ld _ rfl rfl kr (Cl.ldS (k := 5) (o := 0) c83 kr (by simp)) ?_
 refine L_ld _ rfl rfl kr (Cl.allN (n := 6) c83 rfl kr) ?_
 refine L_g 2 kr ?_
 refine L_c rfl rfl kr (came_ok (m := .ask e q) (v := .iface Tys.a (.agg ⟨[nv e.src, nv e.ctx, nv e.tag, nv e.size, nv e.parts, nv q]⟩)) (R.ext T83) hp rfl he) ?_
 rintro v84 h84 N84
 dsimp only at N84
 obtain ⟨S84, C84, ro84, R84, Y84⟩ := N84
 have X84 := ((Gx.refl).trans (Gx.of T83)).trans Y84
 have m83_84 : ¬ (Gh.mut ⟨Gh.B G, S84, C84, ro84⟩) (h.next) ∧ ¬ (Gh.ro ⟨Gh.B G, S84, C84, ro84⟩) (h.next) := ⟨fun hm => (Y84.mu _ hm).elim m83.1 (fun e => by have := c83.lt; omega), fun hm => (Y84.ron _ hm).elim m83.2 (fun e => by have := c83.lt; omega)⟩
 replace c83 := c83.sm Y84.sm m83.1
 have T84 : Sm (Ow h (⟨Gh.B G, S84, C84, ro84⟩ : Gh)) h84 h84 := .refl
 refine L_nil ?_
 repeat with_reducible refine blk_norm ?_
 refine done_of (v := .tuple ⟨[]⟩) (.inr rfl) kr ?_
 exact ⟨_, _, _, (R84.ow T84), ((X84).ow T84)⟩
theorem hcredit_ok {W : Wd} {G : Gh} {h : AH} {p i : Nat} (R : Rep W G h) (hp : p < W.n) (hi : i < (W.pr p).crds.length) (h1 : ((W.pr p).crds.getD i 0) < big) (h0 : -(big : Int) < ((W.pr p).crds.getD i 0)) :
  Arm.Calls Try.prog 98 [.agg ⟨[]⟩, ptr (G.B .wd), nv (p : Int), nv (i : Int)] h (fun r => Nxt (W.setPr p { W.pr p with crds := (W.pr p).crds.set i (((W.pr p).crds.getD i 0) + 1) }) G h r.2) := by
 have h1 : ((W.pr p).crds.getD i 0) < 1000000000 := h1
 have h0 : -1000000000 < ((W.pr p).crds.getD i 0) := h0
 have hci : ((W.pr p).crds.map nv)[i]? = some (nv ((W.pr p).crds.getD i 0)) := by rw [List.getElem?_map, List.getElem?_eq_getElem hi, List.getD_eq_getElem?_getD, List.getElem?_eq_getElem hi]; rfl
 refine Calls_of_W (n := 23) (fn := Try.f98) kr rfl rfl (Nat.le_of_ble_eq_true rfl) trivial ⟨.inr (by simp), rfl⟩ ?_
 have T0 : Sm Nix h h := .refl
 refine W_seq ?_
 refine W_region ?_
 refine L_nw (Al.cells []) .ptr rfl rfl kr ?_
 have m85 : ¬ (Gh.mut G) h.next ∧ ¬ (Gh.ro G) h.next := ⟨(R.ext T0).op.new (Nat.le_refl _), (R.ext T0).op.newr (Nat.le_refl _)⟩
 have c85 : Cl (h.push (Al.cells []).obj) h.next [] := Cl.new h _
 have t85 : Sm Nix h (h.push (Al.cells []).obj) := .push h _
 have n85 : (h.push (Al.cells []).obj).next = h.next + 1 := rfl
 generalize h.push (Al.cells []).obj = h85 at c85 t85 n85 ⊢
 have T85 : Sm Nix h h85 := T0.ext t85
 have N85 := T85.nx
 refine L_nil ?_
 refine W_region ?_
 refine L_g 3 kr ?_
 refine L_ld _ rfl rfl kr ((R.ext T85).wdL.ld (o := 1) kr rfl) ?_
 refine L_g 1 kr ?_
 obtain ⟨b1, o1, i1, l1⟩ := (R.ext T85).prsAt (P := Try.prog) (T := 74) (el := 77) kr kr kr hp
 refine L_ix _ rfl rfl kr kr (i1) ?_
 refine L_ld _ rfl rfl kr (l1) ?_
 refine L_g 2 kr ?_
 refine L_ld _ rfl rfl kr (((R.ext T85).prL hp).ld (o := 6) kr rfl) ?_
 refine L_g 1 kr ?_
 obtain ⟨pa, xa, i1, i2, i3, i4, i5⟩ := ((R.ext T85).crd hp).elem (P := Try.prog) (T := 29) (el := 3) kr kr kr hi .i64
 obtain rfl : xa = nv ((W.pr p).crds.getD i 0) := Option.some.inj (i2.symm.trans hci)
 refine L_ix _ rfl rfl kr kr (i1) ?_
 refine L_ld _ rfl rfl kr (i3) ?_
 refine L_i (((W.pr p).crds.getD i 0)) (1) (nv (((W.pr p).crds.getD i 0) + 1)) rfl rfl kr kr rfl (inc_int h0 h1) ?_
 refine L_ix _ rfl rfl kr kr (i1) ?_
 obtain ⟨h86, e86, w86, t86, n86⟩ := i5 (nv (((W.pr p).crds.getD i 0) + 1)) rfl rfl
 have N86 : Nxt (W.setPr p { W.pr p with crds := (W.pr p).crds.set i (((W.pr p).crds.getD i 0) + 1) }) G h85 h86 := (R.ext T85).setCrd hp (by rw [List.length_set, List.map_set]; exact w86) t86
 refine L_st _ rfl rfl rfl kr kr (e86) ?_
 obtain ⟨S86, C86, ro86, R86, Y86⟩ := N86
 have X86 := ((Gx.refl).trans (Gx.of T85)).trans Y86
 have m85_86 : ¬ (Gh.mut ⟨Gh.B G, S86, C86, ro86⟩) (h.next) ∧ ¬ (Gh.ro ⟨Gh.B G, S86, C86, ro86⟩) (h.next) := ⟨fun hm => (Y86.mu _ hm).elim m85.1 (fun e => by have := c85.lt; omega), fun hm => (Y86.ron _ hm).elim m85.2 (fun e => by have := c85.lt; omega)⟩
 replace c85 := c85.sm Y86.sm m85.1
 have T86 : Sm (Ow h (⟨Gh.B G, S86, C86, ro86⟩ : Gh)) h86 h86 := .refl
 refine L_nil ?_
 repeat with_reducible refine blk_norm ?_
 refine done_of (v := .tuple ⟨[]⟩) (.inr rfl) kr ?_
 exact ⟨_, _, _, (R86.ow T86), ((X86).ow T86)⟩
end
end Go.Proofs.Ytmehemeoaplepaa
namespace Go.Proofs.Ytmehemeoaplepaa
noncomputable section
open Go Go.X Go.Arm Go.Mt
theorem kget_reqs {f : Nat → Value} {l : List Nat} {k : Nat} (h : k ∈ l) : kget (l.map fun (x : Nat) => ((x : Int), f x)) (k : Int) = some (f k) := by
 induction l with
 | nil => cases h
 | cons x l ih =>
  rw [List.map_cons]
  unfold kget
  by_cases e : x = k
  · subst e; rw [if_pos rfl]
  · rw [if_neg (show ¬ ((x : Int) = (k : Int)) by omega)]
    rcases List.mem_cons.1 h with h | h
    · exact (e h.symm).elim
    · exact ih h
theorem kget_exps {f : Nat → Value} {l : List ((Int × Int) × Nat)} {k : Int × Int} : kget (l.map fun e => (e.1, f e.2)) k = (kget l k).map f := by
 induction l with
 | nil => rfl
 | cons x l ih =>
  rw [List.map_cons]
  unfold kget
  by_cases e : x.1 = k
  · rw [if_pos e, if_pos e]; rfl
  · rw [if_neg e, if_neg e]; exact ih
theorem kdel_map {κ : Type} [DecidableEq κ] (f : Nat → Value) (l : List (κ × Nat)) (k : κ) : kdel (l.map fun e => (e.1, f e.2)) k = (kdel l k).map fun e => (e.1, f e.2) := by
 induction l with
 | nil => rfl
 | cons x l ih =>
  simp only [List.map_cons]
  unfold kdel
  split
  · rfl
  · rw [List.map_cons, ih]
theorem kdel_mem {κ β : Type} [DecidableEq κ] {l : List (κ × β)} {k : κ} {x : κ × β} (h : x ∈ kdel l k) : x ∈ l := by
 induction l with
 | nil => cases h
 | cons y l ih =>
  unfold kdel at h
  split at h
  · exact List.mem_cons_of_mem _ h
  · rcases List.mem_cons.1 h with h | h
    · exact List.mem_cons.2 (.inl h)
    · exact List.mem_cons_of_mem _ (ih h)
theorem look_rq {W : Wd} {G : Gh} {h : AH} {p no : Nat} {c : Bool} (R : Rep W G h) (hp : p < W.n) (hm : no ∈ (W.pr p).reqs) : aLookup Try.prog 78 (.map (some (G.B (.rqs p)))) (nv (no : Int)) c h = some (tupOk c (ptr (G.B (.rq p no))) true) := by
 rcases (R.rqs hp).1.lookup (P := Try.prog) (T := 78) (kt := 3) (el := 103) (z := .pointer none) kr kNum kr (no : Int) c with ⟨h1, _⟩ | ⟨v, x, h1, h2, h3⟩
 · rw [kget_reqs (f := fun k => ptr (G.B (.rq p k))) hm] at h1; cases h1
 · rw [kget_reqs (f := fun k => ptr (G.B (.rq p k))) hm] at h1; cases h1; subst h2; exact h3
theorem look_ex {W : Wd} {G : Gh} {h : AH} {p no : Nat} {k : Int × Int} {c : Bool} (R : Rep W G h) (hp : p < W.n) (hm : kget (W.pr p).exps k = some no) : aLookup Try.prog 79 (.map (some (G.B (.exs p)))) (k2 k) c h = some (tupOk c (ptr (G.B (.rq p no))) true) := by
 have hk : kget ((W.pr p).exps.map fun e => (e.1, ptr (G.B (.rq p e.2)))) k = some (ptr (G.B (.rq p no))) := by
   rw [kget_exps (f := fun k => ptr (G.B (.rq p k))), hm]; rfl
 rcases (R.exs hp).1.lookup (P := Try.prog) (T := 79) (kt := 153) (el := 103) (z := .pointer none) kr k_ori kr k c with ⟨h1, _⟩ | ⟨v, x, h1, h2, h3⟩
 · rw [hk] at h1; cases h1
 · rw [hk] at h1; cases h1; subst h2; exact h3
theorem kget_mem {κ β : Type} [DecidableEq κ] {l : List (κ × β)} {k : κ} {n : β} (h : kget l k = some n) : ∃ x, x ∈ l ∧ x.2 = n := by
 induction l with
 | nil => cases h
 | cons y l ih =>
  unfold kget at h
  split at h
  · exact ⟨y, List.mem_cons.2 (.inl rfl), Option.some.inj h⟩
  · obtain ⟨x, h1, h2⟩ := ih h; exact ⟨x, List.mem_cons_of_mem _ h1, h2⟩
theorem hclear_ok {W : Wd} {G : Gh} {h : AH} {p no : Nat} {f : Int} {W1 : Wd} (R : Rep W G h) (hp : p < W.n) (hm : no ∈ (W.pr p).reqs) (h0 : (W.rq p no).parts = 0) (he : W.put p f (.body no (W.rq p no).data) = some W1) :
   Arm.Calls Try.prog 99 [.agg ⟨[nv (no : Int)]⟩, ptr (G.B .wd), nv (p : Int), nv f] h (fun r => Nxt (W1.setRq p no { W1.rq p no with done := true }) G h r.2) := by
 have hr := (R.rel.pr p hp).rqp no hm
 unfold Wd.put at he
 split at he
 · rename_i hlw
   obtain rfl := Option.some.inj he
   obtain ⟨dv0, hd0, c0⟩ := R.rqL hp hr
   replace c0 : Arm.Cl h (G.B (.rq p no)) [nk (W.rq p no).no, nv (W.rq p no).peer, nv (W.rq p no).ctx, nv (W.rq p no).tag, nv (W.rq p no).room, .bool (W.rq p no).send, .bool (W.rq p no).sync, .bool (W.rq p no).pers, .bool (W.rq p no).act, .bool (W.rq p no).done, nk (W.rq p no).parts, nk (W.rq p no).size, dv0, G.S (.pcs p no), nk (W.rq p no).gone, G.S (.snt p no), .bool (W.rq p no).clr, nv (W.rq p no).st.src, nv (W.rq p no).st.tag, nv (W.rq p no).st.size, nv (W.rq p no).st.err] := c0
   obtain ⟨da, dc, rfl⟩ := hd0.1.form
   refine Calls_of_W (n := 49) (fn := Try.f99) kr rfl rfl (Nat.le_of_ble_eq_true rfl) trivial ⟨.inr (by simp), rfl⟩ ?_
   have T0 : Sm Nix h h := .refl
   refine W_seq ?_
   refine W_region ?_
   refine L_nw (Al.cells [nv (no : Int)]) .ptr rfl rfl kr ?_
   have m87 : ¬ (Gh.mut G) h.next ∧ ¬ (Gh.ro G) h.next := ⟨(R.ext T0).op.new (Nat.le_refl _), (R.ext T0).op.newr (Nat.le_refl _)⟩
   have c87 : Cl (h.push (Al.cells [nv (no : Int)]).obj) h.next [nv (no : Int)] := Cl.new h _
   have t87 : Sm Nix h (h.push (Al.cells [nv (no : Int)]).obj) := .push h _
   have n87 : (h.push (Al.cells [nv (no : Int)]).obj).next = h.next + 1 := rfl
   generalize h.push (Al.cells [nv (no : Int)]).obj = h87 at c87 t87 n87 ⊢
   have T87 : Sm Nix h h87 := T0.ext t87
   have N87 := T87.nx
   refine L_nil ?_
   refine W_seq ?_
   refine W_drawn kr ?_
   refine D_l (l := [0, 1, 2, 3, 4, 5, 6, 7, 8, 9, 10, 11, 12, 13]) kr kr Rk_nil ?_
   refine NS_b 3 kr ?_
   refine NS_ld _ rfl rfl kr kr kr ((R.ext T87).wdL.ld (o := 1) kr rfl) ?_
   refine NS_b 1 kr ?_
   obtain ⟨b1, o1, i1, l1⟩ := (R.ext T87).prsAt (P := Try.prog) (T := 74) (el := 77) kr kr kr hp
   refine NS_ix _ rfl rfl kr kr kr kr (i1) ?_
   refine NS_ld _ rfl rfl kr kr kr (l1) ?_
   refine NS_b 2 kr ?_
   refine NS_ld _ rfl rfl kr kr kr (((R.ext T87).prL hp).ld (o := 1) kr rfl) ?_
   refine NS_b 1 kr ?_
   refine NS_ld _ rfl rfl kr kr kr (c87.ld (o := 0) kr rfl) ?_
   refine NS_lk _ rfl rfl kr kr kr kr (look_rq (R.ext T87) hp hm) ?_
   refine NS_b 1 kr ?_
   refine NS_nil ?_
   refine W_seq ?_
   refine W_seq ?_
   refine W_region ?_
   refine L_g 3 kr ?_
   refine L_ld _ rfl rfl kr ((c0.ext T87).ld (o := 10) kr rfl) ?_
   refine L_i (((W.rq p no).parts : Int)) (0) (.bool false) rfl rfl kr kr rfl (by simp; omega) ?_
   refine L_nil ?_
   refine W_cond false kr (fun e => by cases e) (fun _ => ?_)
   refine W_skip ?_
   refine W_seq ?_
   refine W_drawn kr ?_
   refine D_e (e := 11) (l := [0, 1, 2, 3, 4, 5, 6, 7, 8, 9, 10]) (s' := []) kr kr rfl kr Rk_nil ?_
   refine NS_b 4 kr ?_
   refine NS_ld _ rfl rfl kr kr kr (c87.ld (o := 0) kr rfl) ?_
   refine NS_b 3 kr ?_
   refine NS_ld _ rfl rfl kr kr kr ((c0.ext T87).ld (o := 12) kr rfl) ?_
   refine NS_b 2 kr ?_
   refine NS_nil ?_
   refine L_c rfl rfl kr (put_ok (R.ext T87) (x := .body no (W.rq p no).data) ⟨_, hd0.ext T87, rfl⟩ hlw) ?_
   rintro v88 h88 N88
   dsimp only at N88
   obtain ⟨S88, C88, ro88, R88, Y88⟩ := N88
   have X88 := ((Gx.refl).trans (Gx.of T87)).trans Y88
   have hr_88 := (Y88.keep _ hr).1
   have m87_88 : ¬ (Gh.mut ⟨Gh.B G, S88, C88, ro88⟩) (h.next) ∧ ¬ (Gh.ro ⟨Gh.B G, S88, C88, ro88⟩) (h.next) := ⟨fun hm => (Y88.mu _ hm).elim m87.1 (fun e => by have := c87.lt; omega), fun hm => (Y88.ron _ hm).elim m87.2 (fun e => by have := c87.lt; omega)⟩
   replace c87 := c87.sm Y88.sm m87.1
   have T88 : Sm (Ow h (⟨Gh.B G, S88, C88, ro88⟩ : Gh)) h88 h88 := .refl
   refine L_nil ⟨rfl, ?_⟩
   refine D_l (l := []) kr kr Rk_nil ?_
   refine NS_nil ?_
   refine W_region ?_
   refine L_g 3 kr ?_
   obtain ⟨dv9, hd9, c9⟩ := (R88.ow T88).rqL hp hr_88
   replace c9 : Cl h88 (Gh.B (⟨Gh.B G, S88, C88, ro88⟩ : Gh) (.rq p no)) [nk ((W.setWay p f (W.way p f ++ [Pk.body no (W.rq p no).data])).rq p no).no, nv ((W.setWay p f (W.way p f ++ [Pk.body no (W.rq p no).data])).rq p no).peer, nv ((W.setWay p f (W.way p f ++ [Pk.body no (W.rq p no).data])).rq p no).ctx, nv ((W.setWay p f (W.way p f ++ [Pk.body no (W.rq p no).data])).rq p no).tag, nv ((W.setWay p f (W.way p f ++ [Pk.body no (W.rq p no).data])).rq p no).room, .bool ((W.setWay p f (W.way p f ++ [Pk.body no (W.rq p no).data])).rq p no).send, .bool ((W.setWay p f (W.way p f ++ [Pk.body no (W.rq p no).data])).rq p no).sync, .bool ((W.setWay p f (W.way p f ++ [Pk.body no (W.rq p no).data])).rq p no).pers, .bool ((W.setWay p f (W.way p f ++ [Pk.body no (W.rq p no).data])).rq p no).act, .bool ((W.setWay p f (W.way p f ++ [Pk.body no (W.rq p no).data])).rq p no).done, nk ((W.setWay p f (W.way p f ++ [Pk.body no (W.rq p no).data])).rq p no).parts, nk ((W.setWay p f (W.way p f ++ [Pk.body no (W.rq p no).data])).rq p no).size, dv9, (⟨Gh.B G, S88, C88, ro88⟩ : Gh).S (.pcs p no), nk ((W.setWay p f (W.way p f ++ [Pk.body no (W.rq p no).data])).rq p no).gone, (⟨Gh.B G, S88, C88, ro88⟩ : Gh).S (.snt p no), .bool ((W.setWay p f (W.way p f ++ [Pk.body no (W.rq p no).data])).rq p no).clr, nv ((W.setWay p f (W.way p f ++ [Pk.body no (W.rq p no).data])).rq p no).st.src, nv ((W.setWay p f (W.way p f ++ [Pk.body no (W.rq p no).data])).rq p no).st.tag, nv ((W.setWay p f (W.way p f ++ [Pk.body no (W.rq p no).data])).rq p no).st.size, nv ((W.setWay p f (W.way p f ++ [Pk.body no (W.rq p no).data])).rq p no).st.err] := c9
   obtain ⟨h89, e89, d89, t89, n89⟩ := c9.store (P := Try.prog) (T := 4) (o := 9) (v := .bool true) kr rfl rfl (by simp)
   have N89 : Nxt ((W.setWay p f (W.way p f ++ [Pk.body no (W.rq p no).data])).setRq p no { ((W.setWay p f (W.way p f ++ [Pk.body no (W.rq p no).data])).rq p no) with done := true }) (⟨Gh.B G, S88, C88, ro88⟩ : Gh) h88 h89 := (R88.ow T88).stRq hp hr_88 (r := { ((W.setWay p f (W.way p f ++ [Pk.body no (W.rq p no).data])).rq p no) with done := true }) hd9 d89 t89 rfl rfl rfl
   clear hd9
   refine L_st _ rfl rfl rfl kr kr (e89) ?_
   obtain ⟨S89, C89, ro89, R89, Y89⟩ := N89
   have X89 := ((X88).ow T88).trans Y89
   have hr_89 := (Y89.keep _ hr_88).1
   have m87_88_89 : ¬ (Gh.mut ⟨Gh.B (⟨Gh.B G, S88, C88, ro88⟩ : Gh), S89, C89, ro89⟩) (h.next) ∧ ¬ (Gh.ro ⟨Gh.B (⟨Gh.B G, S88, C88, ro88⟩ : Gh), S89, C89, ro89⟩) (h.next) := ⟨fun hm => (Y89.mu _ hm).elim m87_88.1 (fun e => by have := c87.lt; omega), fun hm => (Y89.ron _ hm).elim m87_88.2 (fun e => by have := c87.lt; omega)⟩
   replace c87 := c87.sm Y89.sm m87_88.1
   have T89 : Sm (Ow h (⟨Gh.B (⟨Gh.B G, S88, C88, ro88⟩ : Gh), S89, C89, ro89⟩ : Gh)) h89 h89 := .refl
   refine L_nil ?_
   repeat with_reducible refine blk_norm ?_
   refine done_of (v := .tuple ⟨[]⟩) (.inr rfl) kr ?_
   exact ⟨_, _, _, (R89.ow T89), ((X89).ow T89)⟩
 · cases he
theorem hbody_ok {W : Wd} {G : Gh} {h : AH} {p no : Nat} {f q : Int} {d : By} {da : Option Addr} {dc : Nat} (R : Rep W G h) (hp : p < W.n) (hm : kget (W.pr p).exps (f, q) = some no) (hd : Dr h G.ro (.slice da (List.map bv d).length dc) d) (hl : d.length < big) (h0 : 0 ≤ (W.rq p no).room) :
  Arm.Calls Try.prog 101 [.agg ⟨[nv q, .slice da (List.map bv d).length dc]⟩, ptr (G.B .wd), nv (p : Int), nv f] h (fun r => Nxt ((W.setRq p no ((W.rq p no).gets d)).setPr p { W.pr p with exps := kdel (W.pr p).exps (f, q) }) G h r.2) := by
 obtain ⟨x0, hx0, rfl⟩ := kget_mem hm
 have hr := (R.rel.pr p hp).exp x0 hx0
 refine Calls_of_W (n := 39) (fn := Try.f101) kr rfl rfl (Nat.le_of_ble_eq_true rfl) trivial ⟨.inr (by simp), rfl⟩ ?_
 have T0 : Sm Nix h h := .refl
 refine W_seq ?_
 refine W_region ?_
 refine L_nw (Al.cells [nv q, .slice da (List.map bv d).length dc]) .ptr rfl rfl kr ?_
 have m90 : ¬ (Gh.mut G) h.next ∧ ¬ (Gh.ro G) h.next := ⟨(R.ext T0).op.new (Nat.le_refl _), (R.ext T0).op.newr (Nat.le_refl _)⟩
 have c90 : Cl (h.push (Al.cells [nv q, .slice da (List.map bv d).length dc]).obj) h.next [nv q, .slice da (List.map bv d).length dc] := Cl.new h _
 have t90 : Sm Nix h (h.push (Al.cells [nv q, .slice da (List.map bv d).length dc]).obj) := .push h _
 have n90 : (h.push (Al.cells [nv q, .slice da (List.map bv d).length dc]).obj).next = h.next + 1 := rfl
 generalize h.push (Al.cells [nv q, .slice da (List.map bv d).length dc]).obj = h90 at c90 t90 n90 ⊢
 have T90 : Sm Nix h h90 := T0.ext t90
 have N90 := T90.nx
 refine L_nil ?_
 refine W_seq ?_
 refine W_region ?_
 refine L_g 2 kr ?_
 refine L_ld _ rfl rfl kr (c90.ld (o := 0) kr rfl) ?_
 refine L_g 1 kr ?_
 refine L_nw (Al.cells [nv 0, nv 0]) .ptr rfl rfl kr ?_
 have m91 : ¬ (Gh.mut G) h90.next ∧ ¬ (Gh.ro G) h90.next := ⟨(R.ext T90).op.new (Nat.le_refl _), (R.ext T90).op.newr (Nat.le_refl _)⟩
 have c91 : Cl (h90.push (Al.cells [nv 0, nv 0]).obj) h90.next [nv 0, nv 0] := Cl.new h90 _
 have t91 : Sm Nix h90 (h90.push (Al.cells [nv 0, nv 0]).obj) := .push h90 _
 have n91 : (h90.push (Al.cells [nv 0, nv 0]).obj).next = h90.next + 1 := rfl
 generalize h90.push (Al.cells [nv 0, nv 0]).obj = h91 at c91 t91 n91 ⊢
 replace c90 := c90.ext t91
 have T91 : Sm Nix h h91 := T90.ext t91
 have N91 := T91.nx
 obtain ⟨h92, e92, d92, t92, n92⟩ := Cl.storeN (P := Try.prog) (T := 153) (n := 2) (v := .agg ⟨[nv f, nv q]⟩) (cs := [nv f, nv q]) c91 rfl kr rfl rfl (List.all_eq_true.1 rfl)
 replace c90 := c90.sm t92 (show ¬ _ = _ by omega)
 replace c91 := d92
 have T92 : Sm Nix h h92 := T91.trans t92 (fun x hx => by have hx : x = h90.next := hx; first | exact .inr (by omega) | exact .inl (by subst hx; first | rfl | exact .inl rfl | exact .inr rfl | exact .inr (.inl rfl) | exact .inr (.inr rfl) | (show _ < _; omega)))
 have N92 := T92.nx
 refine L_st _ rfl rfl rfl kr kr (e92) ?_
 refine L_nil ?_
 refine W_seq ?_
 refine W_drawn kr ?_
 refine D_e (e := 14) (l := [0, 1, 2, 3, 4, 5, 6, 7, 8, 9, 10, 11, 12, 13]) (s' := []) kr kr rfl kr Rk_nil ?_
 refine NS_b 3 kr ?_
 refine NS_ld _ rfl rfl kr kr kr ((R.ext T92).wdL.ld (o := 1) kr rfl) ?_
 refine NS_b 1 kr ?_
 obtain ⟨b1, o1, i1, l1⟩ := (R.ext T92).prsAt (P := Try.prog) (T := 74) (el := 77) kr kr kr hp
 refine NS_ix _ rfl rfl kr kr kr kr (i1) ?_
 refine NS_ld _ rfl rfl kr kr kr (l1) ?_
 refine NS_b 2 kr ?_
 refine NS_ld _ rfl rfl kr kr kr (((R.ext T92).prL hp).ld (o := 2) kr rfl) ?_
 refine NS_ld _ rfl rfl kr kr kr (Cl.allN (n := 2) c91 rfl kr) ?_
 refine NS_lk _ rfl rfl kr kr kr kr (look_ex (R.ext T92) hp hm) ?_
 refine NS_b 1 kr ?_
 refine NS_ld _ rfl rfl kr kr kr (c90.ld (o := 1) kr rfl) ?_
 refine NS_nil ?_
 refine L_c rfl rfl kr (gets_ok (R.ext T92) hp hr (Dr.ext hd T92) hl h0) ?_
 rintro v93 h93 N93
 dsimp only at N93
 obtain ⟨S93, C93, ro93, R93, Y93⟩ := N93
 have X93 := ((Gx.refl).trans (Gx.of T92)).trans Y93
 have m90_93 : ¬ (Gh.mut ⟨Gh.B G, S93, C93, ro93⟩) (h.next) ∧ ¬ (Gh.ro ⟨Gh.B G, S93, C93, ro93⟩) (h.next) := ⟨fun hm => (Y93.mu _ hm).elim m90.1 (fun e => by have := c90.lt; omega), fun hm => (Y93.ron _ hm).elim m90.2 (fun e => by have := c90.lt; omega)⟩
 replace c90 := c90.sm Y93.sm m90.1
 have m91_93 : ¬ (Gh.mut ⟨Gh.B G, S93, C93, ro93⟩) (h90.next) ∧ ¬ (Gh.ro ⟨Gh.B G, S93, C93, ro93⟩) (h90.next) := ⟨fun hm => (Y93.mu _ hm).elim m91.1 (fun e => by have := c91.lt; omega), fun hm => (Y93.ron _ hm).elim m91.2 (fun e => by have := c91.lt; omega)⟩
 replace c91 := c91.sm Y93.sm m91.1
 have T93 : Sm (Ow h (⟨Gh.B G, S93, C93, ro93⟩ : Gh)) h93 h93 := .refl
 refine L_nil ⟨rfl, ?_⟩
 refine D_l (l := []) kr kr Rk_nil ?_
 refine NS_nil ?_
 refine W_drawn kr ?_
 refine D_e (e := 11) (l := [0, 1, 2, 3, 4, 5, 6, 7, 8, 9, 10]) (s' := []) kr kr rfl kr Rk_nil ?_
 refine NS_b 3 kr ?_
 refine NS_ld _ rfl rfl kr kr kr ((R93.ow T93).wdL.ld (o := 1) kr rfl) ?_
 refine NS_b 1 kr ?_
 obtain ⟨b1, o1, i1, l1⟩ := (R93.ow T93).prsAt (P := Try.prog) (T := 74) (el := 77) kr kr kr hp
 refine NS_ix _ rfl rfl kr kr kr kr (i1) ?_
 refine NS_ld _ rfl rfl kr kr kr (l1) ?_
 refine NS_b 2 kr ?_
 refine NS_ld _ rfl rfl kr kr kr (((R93.ow T93).prL hp).ld (o := 2) kr rfl) ?_
 refine NS_ld _ rfl rfl kr kr kr (Cl.allN (n := 2) c91 rfl kr) ?_
 refine NS_nil ?_
 have hE := (R93.ow T93).exs hp
 obtain ⟨h94, e94, mp94, t94, n94⟩ := hE.1.delete (P := Try.prog) (T := 79) (el := 103) kr k_ori (f, q)
 have e9 := kdel_map (fun k => ptr (Gh.B (⟨Gh.B G, S93, C93, ro93⟩ : Gh) (.rq p k))) (W.pr p).exps (f, q)
 dsimp only at e9
 have mp994 : Mp h94 (Gh.B (⟨Gh.B G, S93, C93, ro93⟩ : Gh) (.exs p)) k2 Eq ((kdel (W.pr p).exps (f, q)).map fun e => (e.1, ptr (Gh.B (⟨Gh.B G, S93, C93, ro93⟩ : Gh) (.rq p e.2)))) := e9 ▸ mp94
 have N94 : Nxt ((W.setRq p x0.2 ((W.rq p x0.2).gets d)).setPr p { W.pr p with exps := kdel (W.pr p).exps (f, q) }) (⟨Gh.B G, S93, C93, ro93⟩ : Gh) h93 h94 := (R93.ow T93).setExs hp (fun x hx => ((R93.ow T93).rel.pr p hp).exp x (kdel_mem hx)) mp994 (hE.2.delete e94) t94
 refine L_bi _ _ rfl rfl kr kr (bi_delete e94) ?_
 obtain ⟨S94, C94, ro94, R94, Y94⟩ := N94
 have X94 := ((X93).ow T93).trans Y94
 have m90_93_94 : ¬ (Gh.mut ⟨Gh.B (⟨Gh.B G, S93, C93, ro93⟩ : Gh), S94, C94, ro94⟩) (h.next) ∧ ¬ (Gh.ro ⟨Gh.B (⟨Gh.B G, S93, C93, ro93⟩ : Gh), S94, C94, ro94⟩) (h.next) := ⟨fun hm => (Y94.mu _ hm).elim m90_93.1 (fun e => by have := c90.lt; omega), fun hm => (Y94.ron _ hm).elim m90_93.2 (fun e => by have := c90.lt; omega)⟩
 replace c90 := c90.sm Y94.sm m90_93.1
 have m91_93_94 : ¬ (Gh.mut ⟨Gh.B (⟨Gh.B G, S93, C93, ro93⟩ : Gh), S94, C94, ro94⟩) (h90.next) ∧ ¬ (Gh.ro ⟨Gh.B (⟨Gh.B G, S93, C93, ro93⟩ : Gh), S94, C94, ro94⟩) (h90.next) := ⟨fun hm => (Y94.mu _ hm).elim m91_93.1 (fun e => by have := c91.lt; omega), fun hm => (Y94.ron _ hm).elim m91_93.2 (fun e => by have := c91.lt; omega)⟩
 replace c91 := c91.sm Y94.sm m91_93.1
 have T94 : Sm (Ow h (⟨Gh.B (⟨Gh.B G, S93, C93, ro93⟩ : Gh), S94, C94, ro94⟩ : Gh)) h94 h94 := .refl
 refine L_nil ⟨rfl, ?_⟩
 refine D_l (l := []) kr kr Rk_nil ?_
 refine NS_nil ?_
 repeat with_reducible refine blk_norm ?_
 refine done_of (v := .tuple ⟨[]⟩) (.inr rfl) kr ?_
 exact ⟨_, _, _, (R94.ow T94), ((X94).ow T94)⟩
end
end Go.Proofs.Ytmehemeoaplepaa
