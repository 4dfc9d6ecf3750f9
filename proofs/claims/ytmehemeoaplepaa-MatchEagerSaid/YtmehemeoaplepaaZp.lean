/- Worlds of the program and walks of its functions. -/
import Derived.Test.YtmehemeoaplepaaZo
import Derived.Test.YtmehemeoaplepaaZj
import Derived.Test.YtmehemeoaplepaaZl
namespace Go.Proofs.Ytmehemeoaplepaa
noncomputable section
open Go Go.X Go.Arm Go.Mt
theorem req_ok {W : Wd} {G : Gh} {h : AH} {p no : Nat} (R : Rep W G h) (hp : p < W.n) (hm : no ∈ (W.pr p).reqs) :
  Arm.Calls Try.prog 51 [ptr (G.B .wd), nv (p : Int), nv (no : Int)] h (fun r => r.1 = .tuple ⟨[ptr (G.B (.rq p no)), nv 0]⟩ ∧ Sm Nix h r.2) := by
 refine Calls_of_W (n := 29) (fn := Try.f51) kr rfl rfl (Nat.le_of_ble_eq_true rfl) trivial ⟨.inr (by simp), rfl⟩ ?_
 have T0 : Sm Nix h h := .refl
 refine W_seq ?_
 refine W_region ?_
 refine L_g 2 kr ?_
 refine L_nil ?_
 refine W_seq ?_
 refine W_region ?_
 refine L_g 2 kr ?_
 refine L_c rfl rfl kr (at_ok (R.ext T0) hp) ?_
 rintro v173 h173 ⟨e173, t173⟩
 try dsimp only at e173
 try dsimp only at t173
 subst e173
 have T173 : Sm Nix h h173 := T0.ext t173
 have N173 := T173.nx
 have M173 := t173.nx
 refine L_g 5 kr ?_
 refine L_nil ?_
 refine W_seq ?_
 refine W_seq ?_
 refine W_region ?_
 refine L_g 2 kr ?_
 refine L_nil ?_
 refine W_cond false kr (fun e => by cases e) (fun _ => ?_)
 refine W_skip ?_
 refine W_seq ?_
 refine W_region ?_
 refine L_g 3 kr ?_
 refine L_ld _ rfl rfl kr (((R.ext T173).prL hp).ld (o := 1) kr rfl) ?_
 refine L_g 1 kr ?_
 refine L_lk _ rfl rfl kr kr (look_rq (R.ext T173) hp hm) ?_
 refine L_g 1 kr ?_
 refine L_nil ?_
 refine W_seq ?_
 refine W_seq ?_
 refine W_region ?_
 refine L_g 2 kr ?_
 refine L_nil ?_
 refine W_cond false kr (fun e => by cases e) (fun _ => ?_)
 refine W_skip ?_
 refine W_seq ?_
 refine W_region ?_
 refine L_g 3 kr ?_
 refine L_nil ?_
 refine W_ret ?_
 repeat first | with_reducible refine then_ret ?_ | with_reducible refine blk_ret ?_
 refine done_of (v := .tuple ⟨[ptr (G.B (.rq p no)), nv 0]⟩) (.inl rfl) kr ?_
 exact ⟨rfl, T173⟩
theorem begun_ok {W : Wd} {G : Gh} {h : AH} {p no : Nat} (R : Rep W G h) (hp : p < W.n) (hm : no ∈ (W.pr p).reqs) (h2 : (W.rq p no).act = true) :
  Arm.Calls Try.prog 35 [ptr (G.B .wd), nv (p : Int), nv (no : Int)] h (fun r => r.1 = .tuple ⟨[ptr (G.B (.rq p no)), nv 0]⟩ ∧ Sm Nix h r.2) := by
 have hr := (R.rel.pr p hp).rqp no hm
 obtain ⟨dv0, hd0, c0⟩ := R.rqL hp hr
 replace c0 : Arm.Cl h (G.B (.rq p no)) [nk (W.rq p no).no, nv (W.rq p no).peer, nv (W.rq p no).ctx, nv (W.rq p no).tag, nv (W.rq p no).room, .bool (W.rq p no).send, .bool (W.rq p no).sync, .bool (W.rq p no).pers, .bool (W.rq p no).act, .bool (W.rq p no).done, nk (W.rq p no).parts, nk (W.rq p no).size, dv0, G.S (.pcs p no), nk (W.rq p no).gone, G.S (.snt p no), .bool (W.rq p no).clr, nv (W.rq p no).st.src, nv (W.rq p no).st.tag, nv (W.rq p no).st.size, nv (W.rq p no).st.err] := c0
 refine Calls_of_W (n := 28) (fn := Try.f35) kr rfl rfl (Nat.le_of_ble_eq_true rfl) trivial ⟨.inr (by simp), rfl⟩ ?_
 have T0 : Sm Nix h h := .refl
 refine W_seq ?_
 refine W_region ?_
 refine L_g 2 kr ?_
 refine L_nil ?_
 refine W_seq ?_
 refine W_region ?_
 refine L_g 3 kr ?_
 refine L_c rfl rfl kr (req_ok (R.ext T0) hp hm) ?_
 rintro v179 h179 ⟨e179, t179⟩
 try dsimp only at e179
 try dsimp only at t179
 subst e179
 have T179 : Sm Nix h h179 := T0.ext t179
 have N179 := T179.nx
 have M179 := t179.nx
 refine L_g 5 kr ?_
 refine L_nil ?_
 refine W_seq ?_
 refine W_block ?_
 refine W_seq ?_
 refine W_region ?_
 refine L_g 3 kr ?_
 refine L_nil ?_
 refine W_cond false kr (fun e => by cases e) (fun _ => ?_)
 refine W_seq ?_
 refine W_region ?_
 refine L_g 3 kr ?_
 refine L_ld _ rfl rfl kr (((c0.ext T179).ld (o := 8) kr (by rw [← h2]; rfl) : aLoad Try.prog 4 ⟨G.B (.rq p no), 8, none⟩ h179 = some (.bool true))) ?_
 refine L_g 2 kr ?_
 refine L_nil ?_
 refine W_cond false kr (fun e => by cases e) (fun _ => ?_)
 refine W_skip ?_
 refine W_seq ?_
 refine W_region ?_
 refine L_g 3 kr ?_
 refine L_nil ?_
 refine W_ret ?_
 repeat first | with_reducible refine then_ret ?_ | with_reducible refine blk_ret ?_
 refine done_of (v := .tuple ⟨[ptr (G.B (.rq p no)), nv 0]⟩) (.inl rfl) kr ?_
 exact ⟨rfl, T179⟩
theorem chan_ok {W : Wd} {G : Gh} {h : AH} {p q : Nat} (R : Rep W G h) (hp : p < W.n) (hq : q < W.n) :
  Arm.Calls Try.prog 33 [ptr (G.B .wd), nv (p : Int), nv (q : Int)] h (fun r => r.1 = nv 0 ∧ Sm Nix h r.2) := by
 refine Calls_of_W (n := 27) (fn := Try.f33) kr rfl rfl (Nat.le_of_ble_eq_true rfl) trivial ⟨.inr (by simp), rfl⟩ ?_
 have T0 : Sm Nix h h := .refl
 refine W_seq ?_
 refine W_region ?_
 refine L_g 1 kr ?_
 refine L_nil ?_
 refine W_seq ?_
 refine W_seq ?_
 refine W_region ?_
 refine L_g 2 kr ?_
 refine L_c rfl rfl kr (at_ok (R.ext T0) hp) ?_
 rintro v182 h182 ⟨e182, t182⟩
 try dsimp only at e182
 try dsimp only at t182
 subst e182
 have T182 : Sm Nix h h182 := T0.ext t182
 have N182 := T182.nx
 have M182 := t182.nx
 refine L_g 5 kr ?_
 refine L_nil ?_
 refine W_seq ?_
 refine W_region ?_
 refine L_g 2 kr ?_
 refine L_nil ?_
 refine W_cond false kr (fun e => by cases e) (fun _ => ?_)
 refine W_skip ?_
 refine W_seq ?_
 refine W_region ?_
 refine L_g 2 kr ?_
 refine L_c rfl rfl kr (at_ok (R.ext T182) hq) ?_
 rintro v183 h183 ⟨e183, t183⟩
 try dsimp only at e183
 try dsimp only at t183
 subst e183
 have T183 : Sm Nix h h183 := T182.ext t183
 have N183 := T183.nx
 have M183 := t183.nx
 refine L_g 5 kr ?_
 refine L_nil ?_
 refine W_seq ?_
 refine W_region ?_
 refine L_g 2 kr ?_
 refine L_nil ?_
 refine W_ret ?_
 repeat first | with_reducible refine then_ret ?_ | with_reducible refine blk_ret ?_
 refine done_of (v := nv 0) (.inl rfl) kr ?_
 exact ⟨rfl, T183⟩
theorem prog_ok {W : Wd} {G : Gh} {h : AH} {p : Nat} {W' : Wd} (R : Rep W G h) (hp : p < W.n) (he : W.call p = some W') :
  Arm.Calls Try.prog 34 [ptr (G.B .wd), nv (p : Int)] h (fun r => r.1 = .tuple ⟨[nv ((W.pr p).inb.length : Int), nv 0]⟩ ∧ Nxt W' G h r.2) := by
 refine Calls_of_W (n := 20) (fn := Try.f34) kr rfl rfl (Nat.le_of_ble_eq_true rfl) trivial ⟨.inr (by simp), rfl⟩ ?_
 have T0 : Sm Nix h h := .refl
 refine W_seq ?_
 refine W_region ?_
 refine L_g 2 kr ?_
 refine L_nil ?_
 refine W_seq ?_
 refine W_seq ?_
 refine W_region ?_
 refine L_g 2 kr ?_
 refine L_c rfl rfl kr (at_ok (R.ext T0) hp) ?_
 rintro v184 h184 ⟨e184, t184⟩
 try dsimp only at e184
 try dsimp only at t184
 subst e184
 have T184 : Sm Nix h h184 := T0.ext t184
 have N184 := T184.nx
 have M184 := t184.nx
 refine L_g 5 kr ?_
 refine L_nil ?_
 refine W_seq ?_
 refine W_region ?_
 refine L_g 2 kr ?_
 refine L_nil ?_
 refine W_cond false kr (fun e => by cases e) (fun _ => ?_)
 refine W_skip ?_
 refine W_seq ?_
 refine W_region ?_
 refine L_g 2 kr ?_
 refine L_c rfl rfl kr (call_ok (R.ext T184) hp he) ?_
 rintro v185 h185 ⟨e185, N185⟩
 dsimp only at e185 N185
 subst e185
 obtain ⟨S185, C185, ro185, R185, Y185⟩ := N185
 have X185 := ((Gx.refl).trans (Gx.of T184)).trans Y185
 have T185 : Sm (Ow h (⟨Gh.B G, S185, C185, ro185⟩ : Gh)) h185 h185 := .refl
 refine L_g 2 kr ?_
 refine L_nil ?_
 refine W_ret ?_
 repeat first | with_reducible refine then_ret ?_ | with_reducible refine blk_ret ?_
 refine done_of (v := .tuple ⟨[nv ((W.pr p).inb.length : Int), nv 0]⟩) (.inl rfl) kr ?_
 exact ⟨rfl, _, _, _, (R185.ow T185), ((X185).ow T185)⟩
end
end Go.Proofs.Ytmehemeoaplepaa
namespace Go.Proofs.Ytmehemeoaplepaa
noncomputable section
open Go Go.X Go.Arm Go.Mt
theorem kdel_reqs {f : Nat → Value} {l : List Nat} {k : Nat} : kdel (l.map fun (x : Nat) => ((x : Int), f x)) (k : Int) = (l.erase k).map fun (x : Nat) => ((x : Int), f x) := by
 induction l with
 | nil => rfl
 | cons x l ih =>
  rw [List.map_cons]
  unfold kdel
  rw [List.erase_cons]
  by_cases e : x = k
  · subst e; rw [if_pos rfl]; simp
  · rw [if_neg (show ¬ ((x : Int) = (k : Int)) by omega), if_neg (by simpa using e), List.map_cons, ih]
theorem over_ok {W : Wd} {G : Gh} {h : AH} {p no : Nat} (R : Rep W G h) (hp : p < W.n) (hr : G.C (.rq p no) ≠ .no) :
   Arm.Calls Try.prog 37 [ptr (G.B .wd), nv (p : Int), ptr (G.B (.rq p no))] h (fun r => Nxt (W.over p no) G h r.2) := by
 by_cases h1 : (W.rq p no).pers = true
 · have e : W.over p no = W.setRq p no { W.rq p no with act := false } := if_pos h1
   rw [e]
   refine Calls_of_W (n := 28) (fn := Try.f37) kr rfl rfl (Nat.le_of_ble_eq_true rfl) trivial ⟨.inr (by simp), rfl⟩ ?_
   have T0 : Sm Nix h h := .refl
   refine W_seq ?_
   refine W_region ?_
   refine L_g 3 kr ?_
   obtain ⟨dv9, hd9, c9⟩ := (R.ext T0).rqL hp hr
   replace c9 : Cl h (Gh.B G (.rq p no)) [nk (W.rq p no).no, nv (W.rq p no).peer, nv (W.rq p no).ctx, nv (W.rq p no).tag, nv (W.rq p no).room, .bool (W.rq p no).send, .bool (W.rq p no).sync, .bool (W.rq p no).pers, .bool (W.rq p no).act, .bool (W.rq p no).done, nk (W.rq p no).parts, nk (W.rq p no).size, dv9, G.S (.pcs p no), nk (W.rq p no).gone, G.S (.snt p no), .bool (W.rq p no).clr, nv (W.rq p no).st.src, nv (W.rq p no).st.tag, nv (W.rq p no).st.size, nv (W.rq p no).st.err] := c9
   obtain ⟨h186, e186, d186, t186, n186⟩ := c9.store (P := Try.prog) (T := 4) (o := 8) (v := .bool false) kr rfl rfl (by simp)
   have N186 : Nxt (W.setRq p no { (W.rq p no) with act := false }) G h h186 := (R.ext T0).stRq hp hr (r := { (W.rq p no) with act := false }) hd9 d186 t186 rfl rfl rfl
   clear hd9
   refine L_st _ rfl rfl rfl kr kr (e186) ?_
   obtain ⟨S186, C186, ro186, R186, Y186⟩ := N186
   have X186 := ((Gx.refl).trans (Gx.of T0)).trans Y186
   have hr_186 := (Y186.keep _ hr).1
   have T186 : Sm (Ow h (⟨Gh.B G, S186, C186, ro186⟩ : Gh)) h186 h186 := .refl
   obtain ⟨dvz, hdz, cz⟩ := R186.rqL (p := p) hp hr_186
   rw [Wd.setRq_at] at hdz cz
   replace cz : Arm.Cl h186 (G.B (.rq p no)) [nk (W.rq p no).no, nv (W.rq p no).peer, nv (W.rq p no).ctx, nv (W.rq p no).tag, nv (W.rq p no).room, .bool (W.rq p no).send, .bool (W.rq p no).sync, .bool (W.rq p no).pers, .bool false, .bool (W.rq p no).done, nk (W.rq p no).parts, nk (W.rq p no).size, dvz, (⟨G.B, S186, C186, ro186⟩ : Gh).S (.pcs p no), nk (W.rq p no).gone, (⟨G.B, S186, C186, ro186⟩ : Gh).S (.snt p no), .bool (W.rq p no).clr, nv (W.rq p no).st.src, nv (W.rq p no).st.tag, nv (W.rq p no).st.size, nv (W.rq p no).st.err] := cz
   refine L_nil ?_
   refine W_seq ?_
   refine W_region ?_
   refine L_g 3 kr ?_
   refine L_ld _ rfl rfl kr (((cz.sm T186 (fun hx => hx.2.1 ⟨.rq p no, hr_186, rfl⟩)).ld (o := 7) kr (by rw [← h1]; rfl) : aLoad Try.prog 4 ⟨G.B (.rq p no), 7, none⟩ h186 = some (.bool true))) ?_
   refine L_g 1 kr ?_
   refine L_nil ?_
   refine W_cond false kr (fun e => by cases e) (fun _ => ?_)
   refine W_skip ?_
   repeat with_reducible refine blk_norm ?_
   refine done_of (v := .tuple ⟨[]⟩) (.inr rfl) kr ?_
   exact ⟨_, _, _, (R186.ow T186), ((X186).ow T186)⟩
 · have e : W.over p no = (W.setRq p no { W.rq p no with act := false }).setPr p { W.pr p with reqs := (W.pr p).reqs.erase (W.rq p no).no } := if_neg h1
   rw [e]
   have h1 : (W.rq p no).pers = false := by simpa using h1
   refine Calls_of_W (n := 28) (fn := Try.f37) kr rfl rfl (Nat.le_of_ble_eq_true rfl) trivial ⟨.inr (by simp), rfl⟩ ?_
   have T0 : Sm Nix h h := .refl
   refine W_seq ?_
   refine W_region ?_
   refine L_g 3 kr ?_
   obtain ⟨dv9, hd9, c9⟩ := (R.ext T0).rqL hp hr
   replace c9 : Cl h (Gh.B G (.rq p no)) [nk (W.rq p no).no, nv (W.rq p no).peer, nv (W.rq p no).ctx, nv (W.rq p no).tag, nv (W.rq p no).room, .bool (W.rq p no).send, .bool (W.rq p no).sync, .bool (W.rq p no).pers, .bool (W.rq p no).act, .bool (W.rq p no).done, nk (W.rq p no).parts, nk (W.rq p no).size, dv9, G.S (.pcs p no), nk (W.rq p no).gone, G.S (.snt p no), .bool (W.rq p no).clr, nv (W.rq p no).st.src, nv (W.rq p no).st.tag, nv (W.rq p no).st.size, nv (W.rq p no).st.err] := c9
   obtain ⟨h187, e187, d187, t187, n187⟩ := c9.store (P := Try.prog) (T := 4) (o := 8) (v := .bool false) kr rfl rfl (by simp)
   have N187 : Nxt (W.setRq p no { (W.rq p no) with act := false }) G h h187 := (R.ext T0).stRq hp hr (r := { (W.rq p no) with act := false }) hd9 d187 t187 rfl rfl rfl
   clear hd9
   refine L_st _ rfl rfl rfl kr kr (e187) ?_
   obtain ⟨S187, C187, ro187, R187, Y187⟩ := N187
   have X187 := ((Gx.refl).trans (Gx.of T0)).trans Y187
   have hr_187 := (Y187.keep _ hr).1
   have T187 : Sm (Ow h (⟨Gh.B G, S187, C187, ro187⟩ : Gh)) h187 h187 := .refl
   obtain ⟨dvz, hdz, cz⟩ := R187.rqL (p := p) hp hr_187
   rw [Wd.setRq_at] at hdz cz
   replace cz : Arm.Cl h187 (G.B (.rq p no)) [nk (W.rq p no).no, nv (W.rq p no).peer, nv (W.rq p no).ctx, nv (W.rq p no).tag, nv (W.rq p no).room, .bool (W.rq p no).send, .bool (W.rq p no).sync, .bool (W.rq p no).pers, .bool false, .bool (W.rq p no).done, nk (W.rq p no).parts, nk (W.rq p no).size, dvz, (⟨G.B, S187, C187, ro187⟩ : Gh).S (.pcs p no), nk (W.rq p no).gone, (⟨G.B, S187, C187, ro187⟩ : Gh).S (.snt p no), .bool (W.rq p no).clr, nv (W.rq p no).st.src, nv (W.rq p no).st.tag, nv (W.rq p no).st.size, nv (W.rq p no).st.err] := cz
   refine L_nil ?_
   refine W_seq ?_
   refine W_region ?_
   refine L_g 3 kr ?_
   refine L_ld _ rfl rfl kr (((cz.sm T187 (fun hx => hx.2.1 ⟨.rq p no, hr_187, rfl⟩)).ld (o := 7) kr (by rw [← h1]; rfl) : aLoad Try.prog 4 ⟨G.B (.rq p no), 7, none⟩ h187 = some (.bool false))) ?_
   refine L_g 1 kr ?_
   refine L_nil ?_
   refine W_cond true kr (fun _ => ?_) (fun e => by cases e)
   refine W_drawn kr ?_
   refine D_e (e := 14) (l := [0, 1, 2, 3, 4, 5, 6, 7, 8, 9, 10, 11, 12, 13]) (s' := []) kr kr rfl kr Rk_nil ?_
   refine NS_b 3 kr ?_
   refine NS_ld _ rfl rfl kr kr kr ((R187.ow T187).wdL.ld (o := 1) kr rfl) ?_
   refine NS_b 1 kr ?_
   obtain ⟨b1, o1, i1, l1⟩ := (R187.ow T187).prsAt (P := Try.prog) (T := 74) (el := 77) kr kr kr hp
   refine NS_ix _ rfl rfl kr kr kr kr (i1) ?_
   refine NS_ld _ rfl rfl kr kr kr (l1) ?_
   refine NS_b 2 kr ?_
   refine NS_ld _ rfl rfl kr kr kr (((R187.ow T187).prL hp).ld (o := 1) kr rfl) ?_
   refine NS_b 3 kr ?_
   refine NS_ld _ rfl rfl kr kr kr ((cz.sm T187 (fun hx => hx.2.1 ⟨.rq p no, hr_187, rfl⟩)).ld (o := 0) kr rfl) ?_
   refine NS_nil ?_
   have hE := (R187.ow T187).rqs (p := p) hp
   obtain ⟨h188, e188, mp188, t188, n188⟩ := hE.1.delete (P := Try.prog) (T := 78) (el := 103) kr kNum ((W.rq p no).no : Int)
   have e9 := kdel_reqs (f := fun k => ptr (Gh.B (⟨Gh.B G, S187, C187, ro187⟩ : Gh) (.rq p k))) (l := (W.pr p).reqs) (k := (W.rq p no).no)
   have mp9188 : Mp h188 (Gh.B (⟨Gh.B G, S187, C187, ro187⟩ : Gh) (.rqs p)) nv Eq (((W.pr p).reqs.erase (W.rq p no).no).map fun (k : Nat) => ((k : Int), ptr (Gh.B (⟨Gh.B G, S187, C187, ro187⟩ : Gh) (.rq p k)))) := e9 ▸ mp188
   have N188 : Nxt ((W.setRq p no { W.rq p no with act := false }).setPr p { W.pr p with reqs := (W.pr p).reqs.erase (W.rq p no).no }) (⟨Gh.B G, S187, C187, ro187⟩ : Gh) h187 h188 := (R187.ow T187).setRqs (p := p) hp (fun k hk => ((R187.ow T187).rel.pr p hp).rqp k (List.mem_of_mem_erase hk)) mp9188 (hE.2.delete e188) t188
   refine L_bi _ _ rfl rfl kr kr (bi_delete e188) ?_
   obtain ⟨S188, C188, ro188, R188, Y188⟩ := N188
   have X188 := ((X187).ow T187).trans Y188
   have hr_188 := (Y188.keep _ hr_187).1
   have T188 : Sm (Ow h (⟨Gh.B (⟨Gh.B G, S187, C187, ro187⟩ : Gh), S188, C188, ro188⟩ : Gh)) h188 h188 := .refl
   refine L_nil ⟨rfl, ?_⟩
   refine D_l (l := []) kr kr Rk_nil ?_
   refine NS_nil ?_
   repeat with_reducible refine blk_norm ?_
   refine done_of (v := .tuple ⟨[]⟩) (.inr rfl) kr ?_
   exact ⟨_, _, _, (R188.ow T188), ((X188).ow T188)⟩
end
end Go.Proofs.Ytmehemeoaplepaa
namespace Go.Proofs.Ytmehemeoaplepaa
noncomputable section
open Go Go.X Go.Arm Go.Mt
theorem check_qt {W : Wd} {G : Gh} {h : AH} {p : Nat} {q : Nat} {ctx : Int} {tag : Int} {wild : Bool} (R : Rep W G h) (hp : p < W.n) (hq : q < W.n) (hc0 : 0 ≤ ctx) (hc1 : ctx ≤ 1048576) (ht0 : 0 ≤ tag) (ht1 : tag ≤ 1048576) :
  Arm.Calls Try.prog 30 [ptr (G.B .wd), nv (p : Int), nv (q : Int), nv ctx, nv tag, .bool wild] h (fun r => r.1 = nv 0 ∧ Sm Nix h r.2) := by
 refine Calls_of_W (n := 69) (fn := Try.f30) kr rfl rfl (Nat.le_of_ble_eq_true rfl) trivial ⟨.inr (by simp), rfl⟩ ?_
 have T0 : Sm Nix h h := .refl
 refine W_seq ?_
 refine W_region ?_
 refine L_g 1 kr ?_
 refine L_nil ?_
 refine W_seq ?_
 refine W_seq ?_
 refine W_region ?_
 refine L_g 2 kr ?_
 refine L_c rfl rfl kr (at_ok (R.ext T0) hp) ?_
 rintro v205 h205 ⟨e205, t205⟩
 try dsimp only at e205
 try dsimp only at t205
 subst e205
 have T205 : Sm Nix h h205 := T0.ext t205
 have N205 := T205.nx
 have M205 := t205.nx
 refine L_g 5 kr ?_
 refine L_nil ?_
 refine W_seq ?_
 refine W_region ?_
 refine L_g 2 kr ?_
 refine L_nil ?_
 refine W_cond false kr (fun e => by cases e) (fun _ => ?_)
 refine W_skip ?_
 refine W_seq ?_
 refine W_seq ?_
 refine W_region ?_
 refine L_g 2 kr ?_
 refine L_c rfl rfl kr (at_ok (R.ext T205) hq) ?_
 rintro v206 h206 ⟨e206, t206⟩
 try dsimp only at e206
 try dsimp only at t206
 subst e206
 have T206 : Sm Nix h h206 := T205.ext t206
 have N206 := T206.nx
 have M206 := t206.nx
 refine L_g 5 kr ?_
 refine L_nil ?_
 refine W_seq ?_
 refine W_region ?_
 refine L_g 14 kr ?_
 refine L_nil ?_
 refine W_cond false kr (fun e => by cases e) (fun _ => ?_)
 refine W_skip ?_
 refine W_seq ?_
 refine W_block ?_
 refine W_seq ?_
 refine W_region ?_
 refine L_g 1 kr ?_
 refine L_i (ctx) (0) (.bool false) rfl rfl kr kr rfl (by first | (simp; done) | (simp; omega)) ?_
 refine L_g 2 kr ?_
 refine L_want kr ?_
 refine L_i (ctx) (1048576) (.bool false) rfl rfl kr kr rfl (by first | (simp; done) | (simp; omega)) ?_
 refine L_g 2 kr ?_
 refine L_nil ?_
 refine W_cond false kr (fun e => by cases e) (fun _ => ?_)
 refine W_seq ?_
 refine W_region ?_
 refine L_g 1 kr ?_
 refine L_i (tag) (0) (.bool false) rfl rfl kr kr rfl (by first | (simp; done) | (simp; omega)) ?_
 refine L_g 2 kr ?_
 refine L_want kr ?_
 refine L_i (tag) (1048576) (.bool false) rfl rfl kr kr rfl (by first | (simp; done) | (simp; omega)) ?_
 refine L_g 10 kr ?_
 refine L_nil ?_
 refine W_cond false kr (fun e => by cases e) (fun _ => ?_)
 refine W_skip ?_
 refine W_seq ?_
 refine W_region ?_
 refine L_g 1 kr ?_
 refine L_nil ?_
 refine W_ret ?_
 repeat first | with_reducible refine then_ret ?_ | with_reducible refine blk_ret ?_
 refine done_of (v := nv 0) (.inl rfl) kr ?_
 exact ⟨rfl, T206⟩
theorem begin_ok {W : Wd} {G : Gh} {h : AH} {p : Nat} {r0 : Rq} {d : By} {s : Value} {W1 W2 W3 : Wd} (R : Rep W G h) (hp : p < W.n) (hfull : (W.pr p).reqs.length < 256) (hrd : r0.data = []) (hrp : r0.pcs = []) (hrs : r0.sent = []) (H : Rb h s (d.map bv)) (hs : ∀ b, vb s = some b → ¬ G.mut b) (he1 : W.call p = some W1) (he2 : W1.add p r0 = some W2) (he3 : W2.start p (W1.pr p).next d = some W3) :
  Arm.Calls Try.prog 31 [ptr (G.B .wd), nv (p : Int), .agg ⟨[nk r0.no, nv r0.peer, nv r0.ctx, nv r0.tag, nv r0.room, .bool r0.send, .bool r0.sync, .bool r0.pers, .bool r0.act, .bool r0.done, nk r0.parts, nk r0.size, .slice none 0 0, .slice none 0 0, nk r0.gone, .slice none 0 0, .bool r0.clr, nv r0.st.src, nv r0.st.tag, nv r0.st.size, nv r0.st.err]⟩, s] h (fun r => r.1 = .tuple ⟨[nk (W3.rq p (W1.pr p).next).no, nv 0]⟩ ∧ (∃ b S C ro, Rep W3 ⟨ups G.B (.rq p (W1.pr p).next) b, S, C, ro⟩ r.2 ∧ Gx G h ⟨ups G.B (.rq p (W1.pr p).next) b, S, C, ro⟩ r.2)) := by
 have hp1 : p < W1.n := by rw [Wd.call_n he1]; exact hp
 have hp2 : p < W2.n := by rw [Wd.add_n he2]; exact hp1
 have hp3 : p < W3.n := by rw [Wd.start_n he3]; exact hp2
 refine Calls_of_W (n := 34) (fn := Try.f31) kr rfl rfl (Nat.le_of_ble_eq_true rfl) trivial ⟨.inr (by simp), rfl⟩ ?_
 have T0 : Sm Nix h h := .refl
 refine W_seq ?_
 refine W_region ?_
 refine L_nw (Al.cells [nk r0.no, nv r0.peer, nv r0.ctx, nv r0.tag, nv r0.room, .bool r0.send, .bool r0.sync, .bool r0.pers, .bool r0.act, .bool r0.done, nk r0.parts, nk r0.size, .slice none 0 0, .slice none 0 0, nk r0.gone, .slice none 0 0, .bool r0.clr, nv r0.st.src, nv r0.st.tag, nv r0.st.size, nv r0.st.err]) .ptr rfl rfl kr ?_
 have m189 : ¬ (Gh.mut G) h.next ∧ ¬ (Gh.ro G) h.next := ⟨(R.ext T0).op.new (Nat.le_refl _), (R.ext T0).op.newr (Nat.le_refl _)⟩
 have c189 : Cl (h.push (Al.cells [nk r0.no, nv r0.peer, nv r0.ctx, nv r0.tag, nv r0.room, .bool r0.send, .bool r0.sync, .bool r0.pers, .bool r0.act, .bool r0.done, nk r0.parts, nk r0.size, .slice none 0 0, .slice none 0 0, nk r0.gone, .slice none 0 0, .bool r0.clr, nv r0.st.src, nv r0.st.tag, nv r0.st.size, nv r0.st.err]).obj) h.next [nk r0.no, nv r0.peer, nv r0.ctx, nv r0.tag, nv r0.room, .bool r0.send, .bool r0.sync, .bool r0.pers, .bool r0.act, .bool r0.done, nk r0.parts, nk r0.size, .slice none 0 0, .slice none 0 0, nk r0.gone, .slice none 0 0, .bool r0.clr, nv r0.st.src, nv r0.st.tag, nv r0.st.size, nv r0.st.err] := Cl.new h _
 have t189 : Sm Nix h (h.push (Al.cells [nk r0.no, nv r0.peer, nv r0.ctx, nv r0.tag, nv r0.room, .bool r0.send, .bool r0.sync, .bool r0.pers, .bool r0.act, .bool r0.done, nk r0.parts, nk r0.size, .slice none 0 0, .slice none 0 0, nk r0.gone, .slice none 0 0, .bool r0.clr, nv r0.st.src, nv r0.st.tag, nv r0.st.size, nv r0.st.err]).obj) := .push h _
 have n189 : (h.push (Al.cells [nk r0.no, nv r0.peer, nv r0.ctx, nv r0.tag, nv r0.room, .bool r0.send, .bool r0.sync, .bool r0.pers, .bool r0.act, .bool r0.done, nk r0.parts, nk r0.size, .slice none 0 0, .slice none 0 0, nk r0.gone, .slice none 0 0, .bool r0.clr, nv r0.st.src, nv r0.st.tag, nv r0.st.size, nv r0.st.err]).obj).next = h.next + 1 := rfl
 generalize h.push (Al.cells [nk r0.no, nv r0.peer, nv r0.ctx, nv r0.tag, nv r0.room, .bool r0.send, .bool r0.sync, .bool r0.pers, .bool r0.act, .bool r0.done, nk r0.parts, nk r0.size, .slice none 0 0, .slice none 0 0, nk r0.gone, .slice none 0 0, .bool r0.clr, nv r0.st.src, nv r0.st.tag, nv r0.st.size, nv r0.st.err]).obj = h189 at c189 t189 n189 ⊢
 have T189 : Sm Nix h h189 := T0.ext t189
 have N189 := T189.nx
 refine L_g 2 kr ?_
 refine L_nil ?_
 refine W_seq ?_
 refine W_seq ?_
 refine W_region ?_
 refine L_g 2 kr ?_
 refine L_c rfl rfl kr (full_ok (R.ext T189) hp (b := false) (by simp; omega)) ?_
 rintro v190 h190 ⟨e190, t190⟩
 try dsimp only at e190
 try dsimp only at t190
 subst e190
 replace c189 := c189.ext t190
 have T190 : Sm Nix h h190 := T189.ext t190
 have N190 := T190.nx
 have M190 := t190.nx
 refine L_g 1 kr ?_
 refine L_nil ?_
 refine W_seq ?_
 refine W_region ?_
 refine L_g 2 kr ?_
 refine L_nil ?_
 refine W_cond false kr (fun e => by cases e) (fun _ => ?_)
 refine W_skip ?_
 refine W_seq ?_
 refine W_region ?_
 refine L_g 2 kr ?_
 refine L_c rfl rfl kr (call_ok (R.ext T190) hp he1) ?_
 rintro v191 h191 ⟨e191, N191⟩
 dsimp only at e191 N191
 subst e191
 obtain ⟨S191, C191, ro191, R191, Y191⟩ := N191
 have X191 := ((Gx.refl).trans (Gx.of T190)).trans Y191
 have m189_191 : ¬ (Gh.mut ⟨Gh.B G, S191, C191, ro191⟩) (h.next) ∧ ¬ (Gh.ro ⟨Gh.B G, S191, C191, ro191⟩) (h.next) := ⟨fun hm => (Y191.mu _ hm).elim m189.1 (fun e => by have := c189.lt; omega), fun hm => (Y191.ron _ hm).elim m189.2 (fun e => by have := c189.lt; omega)⟩
 replace c189 := c189.sm Y191.sm m189.1
 have T191 : Sm (Ow h (⟨Gh.B G, S191, C191, ro191⟩ : Gh)) h191 h191 := .refl
 refine L_nil ?_
 refine W_seq ?_
 refine W_region ?_
 refine L_g 2 kr ?_
 refine L_ld _ rfl rfl kr (Cl.allN (n := 21) c189 rfl kr) ?_
 refine L_c rfl rfl kr (add_ok (R191.ow T191) hp1 (r := r0) hrd hrp hrs he2) ?_
 rintro v9 h192 ⟨b9, S9, C9, ro9, R9, Y9, hr9, e9⟩
 dsimp only at R9 Y9 hr9 e9
 subst e9
 have X9 := ((X191).ow T191).trans Y9
 have eB9 : ups (Gh.B (⟨Gh.B G, S191, C191, ro191⟩ : Gh)) (.rq p (W1.pr p).next) b9 (.rq p (W1.pr p).next) = b9 := ups_at _ _ _
 replace c189 := c189
 have T192 : Sm (Ow h (⟨ups (Gh.B (⟨Gh.B G, S191, C191, ro191⟩ : Gh)) (.rq p (W1.pr p).next) b9, S9, C9, ro9⟩ : Gh)) h192 h192 := .refl
 refine L_g 1 kr ?_
 refine L_nil ?_
 refine W_seq ?_
 refine W_region ?_
 refine L_g 4 kr ?_
 have hst := start_ok (R9.ow T192) hp2 hr9 (H.sm (((X9).ow T192)).sm hs) he3
 rw [show Gh.B (⟨ups (Gh.B (⟨Gh.B G, S191, C191, ro191⟩ : Gh)) (.rq p (W1.pr p).next) b9, S9, C9, ro9⟩ : Gh) (.rq p (W1.pr p).next) = b9 from eB9] at hst
 refine L_c rfl rfl kr (hst) ?_
 rintro v193 h193 N193
 dsimp only at N193
 obtain ⟨S193, C193, ro193, R193, Y193⟩ := N193
 have X193 := ((X9).ow T192).trans Y193
 have T193 : Sm (Ow h (⟨Gh.B (⟨ups (Gh.B (⟨Gh.B G, S191, C191, ro191⟩ : Gh)) (.rq p (W1.pr p).next) b9, S9, C9, ro9⟩ : Gh), S193, C193, ro193⟩ : Gh)) h193 h193 := .refl
 have hrz := (Y193.keep _ hr9).1
 obtain ⟨dvz, hdz, cz⟩ := R193.rqL (p := p) hp3 hrz
 rw [show Gh.B (⟨ups (Gh.B G) (.rq p (W1.pr p).next) b9, S193, C193, ro193⟩ : Gh) (.rq p (W1.pr p).next) = b9 from eB9] at cz
 refine L_nil ?_
 refine W_seq ?_
 refine W_region ?_
 refine L_g 3 kr ?_
 refine L_ld _ rfl rfl kr ((cz.sm T193 (fun hx => hx.2.1 ⟨.rq p (W1.pr p).next, hrz, congrArg some eB9⟩)).ld (o := 0) kr rfl) ?_
 refine L_g 2 kr ?_
 refine L_nil ?_
 refine W_ret ?_
 repeat first | with_reducible refine then_ret ?_ | with_reducible refine blk_ret ?_
 refine done_of (v := .tuple ⟨[nk (W3.rq p (W1.pr p).next).no, nv 0]⟩) (.inl rfl) kr ?_
 exact ⟨rfl, b9, _, _, _, (R193.ow T193), ((X193).ow T193)⟩
end
end Go.Proofs.Ytmehemeoaplepaa
namespace Go.Proofs.Ytmehemeoaplepaa
noncomputable section
open Go Go.X Go.Arm Go.Mt
theorem send1_ok {W : Wd} {G : Gh} {h : AH} {p q : Nat} {ctx tag : Int} {sync : Bool} {d : By} {s : Value} {W1 W2 W3 : Wd} (R : Rep W G h) (hp : p < W.n) (hq : q < W.n) (hc0 : 0 ≤ ctx) (hc1 : ctx ≤ 1048576) (ht0 : 0 ≤ tag) (ht1 : tag ≤ 1048576) (hfull : (W.pr p).reqs.length < 256) (hld : d.length ≤ 4096) (H : Rb h s (d.map bv)) (hs : ∀ b, vb s = some b → ¬ G.mut b) (he1 : W.call p = some W1) (he2 : W1.add p { no := 0, peer := (q : Int), ctx := ctx, tag := tag, room := 0, send := true, sync := sync, pers := false, act := false, done := false, parts := 0, size := 0, data := [], pcs := [], gone := 0, sent := [], clr := false, st := St.z } = some W2) (he3 : W2.start p (W1.pr p).next d = some W3) :
  Arm.Calls Try.prog 10 [ptr (G.B .wd), nv (p : Int), nv (q : Int), nv ctx, nv tag, s, .bool sync] h (fun r => r.1 = .tuple ⟨[nk (W3.rq p (W1.pr p).next).no, nv 0]⟩ ∧ (∃ b S C ro, Rep W3 ⟨ups G.B (.rq p (W1.pr p).next) b, S, C, ro⟩ r.2 ∧ Gx G h ⟨ups G.B (.rq p (W1.pr p).next) b, S, C, ro⟩ r.2)) := by
 refine Calls_of_W (n := 40) (fn := Try.f10) kr rfl rfl (Nat.le_of_ble_eq_true rfl) trivial ⟨.inr (by simp), rfl⟩ ?_
 have T0 : Sm Nix h h := .refl
 refine W_seq ?_
 refine W_region ?_
 refine L_g 2 kr ?_
 refine L_nil ?_
 refine W_seq ?_
 refine W_seq ?_
 refine W_region ?_
 refine L_g 5 kr ?_
 refine L_c rfl rfl kr (check_qt (wild := false) (R.ext T0) hp hq hc0 hc1 ht0 ht1) ?_
 rintro v194 h194 ⟨e194, t194⟩
 try dsimp only at e194
 try dsimp only at t194
 subst e194
 have T194 : Sm Nix h h194 := T0.ext t194
 have N194 := T194.nx
 have M194 := t194.nx
 refine L_g 1 kr ?_
 refine L_nil ?_
 refine W_seq ?_
 refine W_region ?_
 refine L_g 2 kr ?_
 refine L_nil ?_
 refine W_cond false kr (fun e => by cases e) (fun _ => ?_)
 refine W_skip ?_
 refine W_seq ?_
 refine W_seq ?_
 refine W_region ?_
 refine L_g 1 kr ?_
 refine L_ln _ rfl rfl kr (H.lenA (T := 23) (el := 5) kr _) ?_
 refine L_i (((List.map bv d).length : Int)) (4096) (.bool false) rfl rfl kr kr rfl (by simp; omega) ?_
 refine L_nil ?_
 refine W_cond false kr (fun e => by cases e) (fun _ => ?_)
 refine W_skip ?_
 refine W_seq ?_
 refine W_region ?_
 refine L_g 8 kr ?_
 have TB9 := T194
 refine L_c rfl rfl kr (begin_ok (r0 := { no := 0, peer := (q : Int), ctx := ctx, tag := tag, room := 0, send := true, sync := sync, pers := false, act := false, done := false, parts := 0, size := 0, data := [], pcs := [], gone := 0, sent := [], clr := false, st := St.z }) (R.ext T194) hp hfull rfl rfl rfl (H.ext T194) hs he1 he2 he3) ?_
 rintro v195 h195 ⟨e195, b9, S9, C9, ro9, R9, Y9⟩
 dsimp only at e195 R9 Y9
 subst e195
 have T195 : Sm Nix h195 h195 := .refl
 refine L_g 4 kr ?_
 refine L_nil ?_
 refine W_ret ?_
 repeat first | with_reducible refine then_ret ?_ | with_reducible refine blk_ret ?_
 refine done_of (v := .tuple ⟨[nk (W3.rq p (W1.pr p).next).no, nv 0]⟩) (.inl rfl) kr ?_
 exact ⟨rfl, b9, S9, C9, ro9, R9.ext T195, ((Gx.of TB9).trans Y9).ext T195⟩
theorem recv_qt {W : Wd} {G : Gh} {h : AH} {p : Nat} {q : Nat} {ctx tag : Int} {room : Int} {W1 W2 W3 : Wd} (R : Rep W G h) (hp : p < W.n) (hq : q < W.n) (hc0 : 0 ≤ ctx) (hc1 : ctx ≤ 1048576) (ht0 : 0 ≤ tag) (ht1 : tag ≤ 1048576) (hr0 : 0 ≤ room) (hr1 : room ≤ 4096) (hfull : (W.pr p).reqs.length < 256) (he1 : W.call p = some W1) (he2 : W1.add p { no := 0, peer := (q : Int), ctx := ctx, tag := tag, room := room, send := false, sync := false, pers := false, act := false, done := false, parts := 0, size := 0, data := [], pcs := [], gone := 0, sent := [], clr := false, st := St.z } = some W2) (he3 : W2.start p (W1.pr p).next [] = some W3) :
  Arm.Calls Try.prog 12 [ptr (G.B .wd), nv (p : Int), nv (q : Int), nv ctx, nv tag, nv room] h (fun r => r.1 = .tuple ⟨[nk (W3.rq p (W1.pr p).next).no, nv 0]⟩ ∧ (∃ b S C ro, Rep W3 ⟨ups G.B (.rq p (W1.pr p).next) b, S, C, ro⟩ r.2 ∧ Gx G h ⟨ups G.B (.rq p (W1.pr p).next) b, S, C, ro⟩ r.2)) := by
 refine Calls_of_W (n := 40) (fn := Try.f12) kr rfl rfl (Nat.le_of_ble_eq_true rfl) trivial ⟨.inr (by simp), rfl⟩ ?_
 have T0 : Sm Nix h h := .refl
 refine W_seq ?_
 refine W_region ?_
 refine L_g 2 kr ?_
 refine L_nil ?_
 refine W_seq ?_
 refine W_seq ?_
 refine W_region ?_
 refine L_g 5 kr ?_
 refine L_c rfl rfl kr (check_qt (wild := true) (R.ext T0) hp hq hc0 hc1 ht0 ht1) ?_
 rintro v196 h196 ⟨e196, t196⟩
 try dsimp only at e196
 try dsimp only at t196
 subst e196
 have T196 : Sm Nix h h196 := T0.ext t196
 have N196 := T196.nx
 have M196 := t196.nx
 refine L_g 1 kr ?_
 refine L_nil ?_
 refine W_seq ?_
 refine W_region ?_
 refine L_g 2 kr ?_
 refine L_nil ?_
 refine W_cond false kr (fun e => by cases e) (fun _ => ?_)
 refine W_skip ?_
 refine W_seq ?_
 refine W_seq ?_
 refine W_region ?_
 refine L_g 1 kr ?_
 refine L_c rfl rfl kr (spac_ok hr0 hr1) ?_
 rintro v197 h197 ⟨e197, t197⟩
 try dsimp only at e197
 try dsimp only at t197
 subst e197
 have T197 : Sm Nix h h197 := T196.ext t197
 have N197 := T197.nx
 have M197 := t197.nx
 refine L_g 1 kr ?_
 refine L_nil ?_
 refine W_seq ?_
 refine W_region ?_
 refine L_g 2 kr ?_
 refine L_nil ?_
 refine W_cond false kr (fun e => by cases e) (fun _ => ?_)
 refine W_skip ?_
 refine W_seq ?_
 refine W_region ?_
 refine L_g 7 kr ?_
 have TB9 := T197
 refine L_c rfl rfl kr (begin_ok (r0 := { no := 0, peer := (q : Int), ctx := ctx, tag := tag, room := room, send := false, sync := false, pers := false, act := false, done := false, parts := 0, size := 0, data := [], pcs := [], gone := 0, sent := [], clr := false, st := St.z }) (d := []) (R.ext T197) hp hfull rfl rfl rfl Rb.nil (fun b hb => by cases hb) he1 he2 he3) ?_
 rintro v198 h198 ⟨e198, b9, S9, C9, ro9, R9, Y9⟩
 dsimp only at e198 R9 Y9
 subst e198
 have T198 : Sm Nix h198 h198 := .refl
 refine L_g 4 kr ?_
 refine L_nil ?_
 refine W_ret ?_
 repeat first | with_reducible refine then_ret ?_ | with_reducible refine blk_ret ?_
 refine done_of (v := .tuple ⟨[nk (W3.rq p (W1.pr p).next).no, nv 0]⟩) (.inl rfl) kr ?_
 exact ⟨rfl, b9, S9, C9, ro9, R9.ext T198, ((Gx.of TB9).trans Y9).ext T198⟩
end
end Go.Proofs.Ytmehemeoaplepaa
namespace Go.Proofs.Ytmehemeoaplepaa
noncomputable section
open Go Go.X Go.Arm Go.Mt
end
end Go.Proofs.Ytmehemeoaplepaa
namespace Go.Proofs.Ytmehemeoaplepaa
noncomputable section
open Go Go.X Go.Arm Go.Mt
theorem evR_c4 {P : Program} {n : Nat} {f : Fr} {h : AH} {k i j l : Nat} {T : TypeId} {a : Addr} {v u x y : Value} (hk : Nat.blt k n = true) (hi : Nat.blt i n = true) (hj : Nat.blt j n = true) (hl' : Nat.blt l n = true) (hf : f k = .pointer (some a)) (hl : aLoad P T a h = some v) (h1 : f i = u) (h2 : f j = x) (h3 : f l = y) : evR P n f h [.cell k T, .tmp i, .tmp j, .tmp l] = some (.tuple ⟨[v, u, x, y]⟩) := by
 have e1 : evR1 P n f h (.cell k T) = some v := by unfold evR1; simp only [hk, hf]; exact hl
 have e2 : evR1 P n f h (.tmp i) = some u := by unfold evR1; simp only [hi, h1]
 have e3 : evR1 P n f h (.tmp j) = some x := by unfold evR1; simp only [hj, h2]
 have e4 : evR1 P n f h (.tmp l) = some y := by unfold evR1; simp only [hl', h3]
 unfold evR evRL evRL evRL evRL evRL
 rw [e1, e2, e3, e4]
theorem test_not {W : Wd} {G : Gh} {h : AH} {p no : Nat} {W1 : Wd} (R : Rep W G h) (hp : p < W.n) (hm : no ∈ (W.pr p).reqs) (hact : (W.rq p no).act = true) (he1 : W.call p = some W1) (hdone : (W1.rq p no).done = false) :
  Arm.Calls Try.prog 15 [ptr (G.B .wd), nv (p : Int), nv (no : Int)] h (fun r => r.1 = .tuple ⟨[.agg ⟨[nv 0, nv 0, nv 0, nv 0]⟩, .slice none 0 0, .bool false, nv 0]⟩ ∧ Nxt W1 G h r.2) := by
 have hp1 : p < W1.n := by rw [Wd.call_n he1]; exact hp
 have hr := (R.rel.pr p hp).rqp no hm
 refine Calls_of_W (n := 53) (fn := Try.f15) kr rfl rfl (Nat.le_of_ble_eq_true rfl) trivial ⟨.inr (by simp), rfl⟩ ?_
 have T0 : Sm Nix h h := .refl
 refine W_seq ?_
 refine W_region ?_
 refine L_nw (Al.cells [nv 0, nv 0, nv 0, nv 0]) .ptr rfl rfl kr ?_
 have m240 : ¬ (Gh.mut G) h.next ∧ ¬ (Gh.ro G) h.next := ⟨(R.ext T0).op.new (Nat.le_refl _), (R.ext T0).op.newr (Nat.le_refl _)⟩
 have c240 : Cl (h.push (Al.cells [nv 0, nv 0, nv 0, nv 0]).obj) h.next [nv 0, nv 0, nv 0, nv 0] := Cl.new h _
 have t240 : Sm Nix h (h.push (Al.cells [nv 0, nv 0, nv 0, nv 0]).obj) := .push h _
 have n240 : (h.push (Al.cells [nv 0, nv 0, nv 0, nv 0]).obj).next = h.next + 1 := rfl
 generalize h.push (Al.cells [nv 0, nv 0, nv 0, nv 0]).obj = h240 at c240 t240 n240 ⊢
 have T240 : Sm Nix h h240 := T0.ext t240
 have N240 := T240.nx
 refine L_g 3 kr ?_
 refine L_nil ?_
 refine W_seq ?_
 refine W_region ?_
 refine L_g 3 kr ?_
 refine L_c rfl rfl kr (begun_ok (R.ext T240) hp hm hact) ?_
 rintro v241 h241 ⟨e241, t241⟩
 try dsimp only at e241
 try dsimp only at t241
 subst e241
 replace c240 := c240.ext t241
 have T241 : Sm Nix h h241 := T240.ext t241
 have N241 := T241.nx
 have M241 := t241.nx
 refine L_g 5 kr ?_
 refine L_nil ?_
 refine W_seq ?_
 refine W_seq ?_
 refine W_region ?_
 refine L_g 2 kr ?_
 refine L_nil ?_
 refine W_cond false kr (fun e => by cases e) (fun _ => ?_)
 refine W_skip ?_
 refine W_seq ?_
 refine W_region ?_
 refine L_g 2 kr ?_
 refine L_c rfl rfl kr (call_ok (R.ext T241) hp he1) ?_
 rintro v242 h242 ⟨e242, N242⟩
 dsimp only at e242 N242
 subst e242
 obtain ⟨S242, C242, ro242, R242, Y242⟩ := N242
 have X242 := ((Gx.refl).trans (Gx.of T241)).trans Y242
 have hr_242 := (Y242.keep _ hr).1
 have m240_242 : ¬ (Gh.mut ⟨Gh.B G, S242, C242, ro242⟩) (h.next) ∧ ¬ (Gh.ro ⟨Gh.B G, S242, C242, ro242⟩) (h.next) := ⟨fun hm => (Y242.mu _ hm).elim m240.1 (fun e => by have := c240.lt; omega), fun hm => (Y242.ron _ hm).elim m240.2 (fun e => by have := c240.lt; omega)⟩
 replace c240 := c240.sm Y242.sm m240.1
 have T242 : Sm (Ow h (⟨Gh.B G, S242, C242, ro242⟩ : Gh)) h242 h242 := .refl
 obtain ⟨dvz, hdz, cz⟩ := R242.rqL (p := p) hp1 hr_242
 replace cz : Arm.Cl h242 (G.B (.rq p no)) [nk (W1.rq p no).no, nv (W1.rq p no).peer, nv (W1.rq p no).ctx, nv (W1.rq p no).tag, nv (W1.rq p no).room, .bool (W1.rq p no).send, .bool (W1.rq p no).sync, .bool (W1.rq p no).pers, .bool (W1.rq p no).act, .bool (W1.rq p no).done, nk (W1.rq p no).parts, nk (W1.rq p no).size, dvz, (⟨G.B, S242, C242, ro242⟩ : Gh).S (.pcs p no), nk (W1.rq p no).gone, (⟨G.B, S242, C242, ro242⟩ : Gh).S (.snt p no), .bool (W1.rq p no).clr, nv (W1.rq p no).st.src, nv (W1.rq p no).st.tag, nv (W1.rq p no).st.size, nv (W1.rq p no).st.err] := cz
 obtain ⟨da, dc, rfl⟩ := hdz.1.form
 refine L_nil ?_
 refine W_seq ?_
 refine W_seq ?_
 refine W_region ?_
 refine L_g 3 kr ?_
 refine L_ld _ rfl rfl kr (((cz.sm T242 (fun hx => hx.2.1 ⟨.rq p no, hr_242, rfl⟩)).ld (o := 9) kr (by rw [← hdone]; rfl) : aLoad Try.prog 4 ⟨G.B (.rq p no), 9, none⟩ h242 = some (.bool false))) ?_
 refine L_g 1 kr ?_
 refine L_nil ?_
 refine W_cond true kr (fun _ => ?_) (fun e => by cases e)
 refine W_seq ?_
 refine W_region ?_
 refine L_g 1 kr ?_
 obtain ⟨h243, e243, d243, t243, n243⟩ := Cl.storeN (P := Try.prog) (T := 43) (n := 4) (v := .agg ⟨[nv 0, nv 0, nv 0, nv 0]⟩) (cs := [nv 0, nv 0, nv 0, nv 0]) c240 rfl kr rfl rfl (List.all_eq_true.1 rfl)
 replace c240 := d243
 have T243 : Sm (Ow h (⟨Gh.B G, S242, C242, ro242⟩ : Gh)) h242 h243 := T242.trans t243 (fun x hx => by have hx : x = h.next := hx; subst hx; first | exact .inr (by omega) | exact .inl ⟨by omega, m240_242.1, m240_242.2⟩ | exact .inl rfl)
 have N243 := T243.nx
 refine L_st _ rfl rfl rfl kr kr (e243) ?_
 refine L_g 3 kr ?_
 refine L_nil ?_
 refine W_ret ?_
 repeat first | with_reducible refine then_ret ?_ | with_reducible refine blk_ret ?_
 refine done_of (.inl rfl) (evR_c4 kr kr kr kr (a := ⟨h.next, 0, none⟩) kr (Cl.allN (n := 4) c240 rfl kr) (u := .slice none 0 0) kr (x := .bool false) kr (y := nv 0) kr) ?_
 exact ⟨rfl, _, _, _, (R242.ow T243), ((X242).ow T243)⟩
theorem test_send {W : Wd} {G : Gh} {h : AH} {p no : Nat} {W1 : Wd} (R : Rep W G h) (hp : p < W.n) (hm : no ∈ (W.pr p).reqs) (hact : (W.rq p no).act = true) (he1 : W.call p = some W1) (hdone : (W1.rq p no).done = true) (hsd : (W1.rq p no).send = true) :
  Arm.Calls Try.prog 15 [ptr (G.B .wd), nv (p : Int), nv (no : Int)] h (fun r => r.1 = .tuple ⟨[.agg ⟨[nv (W1.rq p no).st.src, nv (W1.rq p no).st.tag, nv (W1.rq p no).st.size, nv (W1.rq p no).st.err]⟩, .slice none 0 0, .bool true, nv 0]⟩ ∧ Nxt (W1.over p no) G h r.2) := by
 have hp1 : p < W1.n := by rw [Wd.call_n he1]; exact hp
 have hr := (R.rel.pr p hp).rqp no hm
 refine Calls_of_W (n := 53) (fn := Try.f15) kr rfl rfl (Nat.le_of_ble_eq_true rfl) trivial ⟨.inr (by simp), rfl⟩ ?_
 have T0 : Sm Nix h h := .refl
 refine W_seq ?_
 refine W_region ?_
 refine L_nw (Al.cells [nv 0, nv 0, nv 0, nv 0]) .ptr rfl rfl kr ?_
 have m244 : ¬ (Gh.mut G) h.next ∧ ¬ (Gh.ro G) h.next := ⟨(R.ext T0).op.new (Nat.le_refl _), (R.ext T0).op.newr (Nat.le_refl _)⟩
 have c244 : Cl (h.push (Al.cells [nv 0, nv 0, nv 0, nv 0]).obj) h.next [nv 0, nv 0, nv 0, nv 0] := Cl.new h _
 have t244 : Sm Nix h (h.push (Al.cells [nv 0, nv 0, nv 0, nv 0]).obj) := .push h _
 have n244 : (h.push (Al.cells [nv 0, nv 0, nv 0, nv 0]).obj).next = h.next + 1 := rfl
 generalize h.push (Al.cells [nv 0, nv 0, nv 0, nv 0]).obj = h244 at c244 t244 n244 ⊢
 have T244 : Sm Nix h h244 := T0.ext t244
 have N244 := T244.nx
 refine L_g 3 kr ?_
 refine L_nil ?_
 refine W_seq ?_
 refine W_region ?_
 refine L_g 3 kr ?_
 refine L_c rfl rfl kr (begun_ok (R.ext T244) hp hm hact) ?_
 rintro v245 h245 ⟨e245, t245⟩
 try dsimp only at e245
 try dsimp only at t245
 subst e245
 replace c244 := c244.ext t245
 have T245 : Sm Nix h h245 := T244.ext t245
 have N245 := T245.nx
 have M245 := t245.nx
 refine L_g 5 kr ?_
 refine L_nil ?_
 refine W_seq ?_
 refine W_seq ?_
 refine W_region ?_
 refine L_g 2 kr ?_
 refine L_nil ?_
 refine W_cond false kr (fun e => by cases e) (fun _ => ?_)
 refine W_skip ?_
 refine W_seq ?_
 refine W_region ?_
 refine L_g 2 kr ?_
 refine L_c rfl rfl kr (call_ok (R.ext T245) hp he1) ?_
 rintro v246 h246 ⟨e246, N246⟩
 dsimp only at e246 N246
 subst e246
 obtain ⟨S246, C246, ro246, R246, Y246⟩ := N246
 have X246 := ((Gx.refl).trans (Gx.of T245)).trans Y246
 have hr_246 := (Y246.keep _ hr).1
 have m244_246 : ¬ (Gh.mut ⟨Gh.B G, S246, C246, ro246⟩) (h.next) ∧ ¬ (Gh.ro ⟨Gh.B G, S246, C246, ro246⟩) (h.next) := ⟨fun hm => (Y246.mu _ hm).elim m244.1 (fun e => by have := c244.lt; omega), fun hm => (Y246.ron _ hm).elim m244.2 (fun e => by have := c244.lt; omega)⟩
 replace c244 := c244.sm Y246.sm m244.1
 have T246 : Sm (Ow h (⟨Gh.B G, S246, C246, ro246⟩ : Gh)) h246 h246 := .refl
 obtain ⟨dvz, hdz, cz⟩ := R246.rqL (p := p) hp1 hr_246
 replace cz : Arm.Cl h246 (G.B (.rq p no)) [nk (W1.rq p no).no, nv (W1.rq p no).peer, nv (W1.rq p no).ctx, nv (W1.rq p no).tag, nv (W1.rq p no).room, .bool (W1.rq p no).send, .bool (W1.rq p no).sync, .bool (W1.rq p no).pers, .bool (W1.rq p no).act, .bool (W1.rq p no).done, nk (W1.rq p no).parts, nk (W1.rq p no).size, dvz, (⟨G.B, S246, C246, ro246⟩ : Gh).S (.pcs p no), nk (W1.rq p no).gone, (⟨G.B, S246, C246, ro246⟩ : Gh).S (.snt p no), .bool (W1.rq p no).clr, nv (W1.rq p no).st.src, nv (W1.rq p no).st.tag, nv (W1.rq p no).st.size, nv (W1.rq p no).st.err] := cz
 obtain ⟨da, dc, rfl⟩ := hdz.1.form
 refine L_nil ?_
 refine W_seq ?_
 refine W_seq ?_
 refine W_region ?_
 refine L_g 3 kr ?_
 refine L_ld _ rfl rfl kr (((cz.sm T246 (fun hx => hx.2.1 ⟨.rq p no, hr_246, rfl⟩)).ld (o := 9) kr (by rw [← hdone]; rfl) : aLoad Try.prog 4 ⟨G.B (.rq p no), 9, none⟩ h246 = some (.bool true))) ?_
 refine L_g 1 kr ?_
 refine L_nil ?_
 refine W_cond false kr (fun e => by cases e) (fun _ => ?_)
 refine W_skip ?_
 refine W_seq ?_
 refine W_region ?_
 refine L_g 3 kr ?_
 refine L_c rfl rfl kr (over_ok (R246.ow T246) hp1 hr_246) ?_
 rintro v247 h247 N247
 dsimp only at N247
 obtain ⟨S247, C247, ro247, R247, Y247⟩ := N247
 have X247 := ((X246).ow T246).trans Y247
 have hr_247 := (Y247.keep _ hr_246).1
 have m244_246_247 : ¬ (Gh.mut ⟨Gh.B (⟨Gh.B G, S246, C246, ro246⟩ : Gh), S247, C247, ro247⟩) (h.next) ∧ ¬ (Gh.ro ⟨Gh.B (⟨Gh.B G, S246, C246, ro246⟩ : Gh), S247, C247, ro247⟩) (h.next) := ⟨fun hm => (Y247.mu _ hm).elim m244_246.1 (fun e => by have := c244.lt; omega), fun hm => (Y247.ron _ hm).elim m244_246.2 (fun e => by have := c244.lt; omega)⟩
 replace c244 := c244.sm Y247.sm m244_246.1
 have T247 : Sm (Ow h (⟨Gh.B (⟨Gh.B G, S246, C246, ro246⟩ : Gh), S247, C247, ro247⟩ : Gh)) h247 h247 := .refl
 have eo : (W1.over p no).rq p no = { W1.rq p no with act := false } := Wd.over_rq W1 p no
 have hp2 : p < (W1.over p no).n := by rw [Wd.over_n]; exact hp1
 obtain ⟨dvy, hdy, cy⟩ := R247.rqL (p := p) hp2 hr_247
 rw [eo] at hdy cy
 replace cy : Arm.Cl h247 (G.B (.rq p no)) [nk (W1.rq p no).no, nv (W1.rq p no).peer, nv (W1.rq p no).ctx, nv (W1.rq p no).tag, nv (W1.rq p no).room, .bool (W1.rq p no).send, .bool (W1.rq p no).sync, .bool (W1.rq p no).pers, .bool false, .bool (W1.rq p no).done, nk (W1.rq p no).parts, nk (W1.rq p no).size, dvy, (⟨G.B, S247, C247, ro247⟩ : Gh).S (.pcs p no), nk (W1.rq p no).gone, (⟨G.B, S247, C247, ro247⟩ : Gh).S (.snt p no), .bool (W1.rq p no).clr, nv (W1.rq p no).st.src, nv (W1.rq p no).st.tag, nv (W1.rq p no).st.size, nv (W1.rq p no).st.err] := cy
 obtain ⟨ea, ec, rfl⟩ := hdy.1.form
 refine L_nil ?_
 refine W_seq ?_
 refine W_seq ?_
 refine W_region ?_
 refine L_g 3 kr ?_
 refine L_ld _ rfl rfl kr (((cy.sm T247 (fun hx => hx.2.1 ⟨.rq p no, hr_247, rfl⟩)).ld (o := 5) kr (by rw [← hsd]; rfl) : aLoad Try.prog 4 ⟨G.B (.rq p no), 5, none⟩ h247 = some (.bool true))) ?_
 refine L_nil ?_
 refine W_cond true kr (fun _ => ?_) (fun e => by cases e)
 refine W_seq ?_
 refine W_region ?_
 refine L_g 3 kr ?_
 refine L_ld _ rfl rfl kr ((cy.sm T247 (fun hx => hx.2.1 ⟨.rq p no, hr_247, rfl⟩)).ldS (k := 4) (o := 17) kr (by simp)) ?_
 obtain ⟨h248, e248, d248, t248, n248⟩ := Cl.storeN (P := Try.prog) (T := 43) (n := 4) (v := .agg ⟨[nv (W1.rq p no).st.src, nv (W1.rq p no).st.tag, nv (W1.rq p no).st.size, nv (W1.rq p no).st.err]⟩) (cs := [nv (W1.rq p no).st.src, nv (W1.rq p no).st.tag, nv (W1.rq p no).st.size, nv (W1.rq p no).st.err]) c244 rfl kr rfl rfl (List.all_eq_true.1 rfl)
 replace c244 := d248
 have T248 : Sm (Ow h (⟨Gh.B (⟨Gh.B G, S246, C246, ro246⟩ : Gh), S247, C247, ro247⟩ : Gh)) h247 h248 := T247.trans t248 (fun x hx => by have hx : x = h.next := hx; subst hx; first | exact .inr (by omega) | exact .inl ⟨by omega, m244_246_247.1, m244_246_247.2⟩ | exact .inl rfl)
 have N248 := T248.nx
 refine L_st _ rfl rfl rfl kr kr (e248) ?_
 refine L_g 3 kr ?_
 refine L_nil ?_
 refine W_ret ?_
 repeat first | with_reducible refine then_ret ?_ | with_reducible refine blk_ret ?_
 refine done_of (.inl rfl) (evR_c4 kr kr kr kr (a := ⟨h.next, 0, none⟩) kr (Cl.allN (n := 4) c244 rfl kr) (u := .slice none 0 0) kr (x := .bool true) kr (y := nv 0) kr) ?_
 exact ⟨rfl, _, _, _, (R247.ow T248), ((X247).ow T248)⟩
end
end Go.Proofs.Ytmehemeoaplepaa
namespace Go.Proofs.Ytmehemeoaplepaa
noncomputable section
open Go Go.X Go.Arm Go.Mt
theorem look_way {W : Wd} {G : Gh} {h : AH} {a b : Int} (R : Rep W G h) : aLookup Try.prog 73 (.map (some (G.B .ways))) (k2 (a, b)) false h = some (G.S (.way a b)) := by
 obtain ⟨m, hm, hmb, hmC, hmS⟩ := R.ways
 rcases hm.lookup (P := Try.prog) (T := 73) (kt := 96) (el := 97) (z := .slice none 0 0) kr k_way kr (a, b) false with ⟨h1, h2⟩ | ⟨v, y, h1, h2, h3⟩
 · rw [← hmS a b, h1]; exact h2
 · rw [← hmS a b, h1, ← h2]; exact h3
theorem deliver_no {W : Wd} {G : Gh} {h : AH} {a b : Nat} (R : Rep W G h) (ha : a < W.n) (hb : b < W.n) (hw : W.way a b = []) :
  Arm.Calls Try.prog 13 [ptr (G.B .wd), nv (a : Int), nv (b : Int)] h (fun r => r.1 = .tuple ⟨[.bool false, nv 0]⟩ ∧ Sm Nix h r.2) := by
 obtain ⟨csg, hgw, lsg⟩ := R.way (a : Int) (b : Int)
 refine Calls_of_W (n := 71) (fn := Try.f13) kr rfl rfl (Nat.le_of_ble_eq_true rfl) trivial ⟨.inr (by simp), rfl⟩ ?_
 have T0 : Sm Nix h h := .refl
 refine W_seq ?_
 refine W_region ?_
 refine L_g 2 kr ?_
 refine L_nil ?_
 refine W_seq ?_
 refine W_seq ?_
 refine W_region ?_
 refine L_g 3 kr ?_
 refine L_c rfl rfl kr (chan_ok (R.ext T0) ha hb) ?_
 rintro v261 h261 ⟨e261, t261⟩
 try dsimp only at e261
 try dsimp only at t261
 subst e261
 have T261 : Sm Nix h h261 := T0.ext t261
 have N261 := T261.nx
 have M261 := t261.nx
 refine L_g 1 kr ?_
 refine L_nil ?_
 refine W_seq ?_
 refine W_region ?_
 refine L_g 2 kr ?_
 refine L_nil ?_
 refine W_cond false kr (fun e => by cases e) (fun _ => ?_)
 refine W_skip ?_
 refine W_seq ?_
 refine W_region ?_
 refine L_g 3 kr ?_
 refine L_nw (Al.cells [nv 0, nv 0]) .ptr rfl rfl kr ?_
 have m262 : ¬ (Gh.mut G) h261.next ∧ ¬ (Gh.ro G) h261.next := ⟨(R.ext T261).op.new (Nat.le_refl _), (R.ext T261).op.newr (Nat.le_refl _)⟩
 have c262 : Cl (h261.push (Al.cells [nv 0, nv 0]).obj) h261.next [nv 0, nv 0] := Cl.new h261 _
 have t262 : Sm Nix h261 (h261.push (Al.cells [nv 0, nv 0]).obj) := .push h261 _
 have n262 : (h261.push (Al.cells [nv 0, nv 0]).obj).next = h261.next + 1 := rfl
 generalize h261.push (Al.cells [nv 0, nv 0]).obj = h262 at c262 t262 n262 ⊢
 have T262 : Sm Nix h h262 := T261.ext t262
 have N262 := T262.nx
 obtain ⟨h263, e263, d263, t263, n263⟩ := Cl.storeN (P := Try.prog) (T := 96) (n := 2) (v := .agg ⟨[nv (a : Int), nv (b : Int)]⟩) (cs := [nv (a : Int), nv (b : Int)]) c262 rfl kr rfl rfl (List.all_eq_true.1 rfl)
 replace c262 := d263
 have T263 : Sm Nix h h263 := T262.trans t263 (fun x hx => by have hx : x = h261.next := hx; first | exact .inr (by omega) | exact .inl (by subst hx; first | rfl | exact .inl rfl | exact .inr rfl | exact .inr (.inl rfl) | exact .inr (.inr rfl) | (show _ < _; omega)))
 have N263 := T263.nx
 refine L_st _ rfl rfl rfl kr kr (e263) ?_
 refine L_nil ?_
 refine W_seq ?_
 refine W_seq ?_
 refine W_drawn kr ?_
 refine D_l (l := [0, 1, 2, 3, 4, 5, 6, 7]) kr kr Rk_nil ?_
 refine NS_b 3 kr ?_
 refine NS_ld _ rfl rfl kr kr kr ((R.ext T263).wdL.ld (o := 2) kr rfl) ?_
 refine NS_ld _ rfl rfl kr kr kr (Cl.allN (n := 2) c262 rfl kr) ?_
 refine NS_lk _ rfl rfl kr kr kr kr (look_way (a := (a : Int)) (b := (b : Int)) (R.ext T263)) ?_
 refine NS_ln _ rfl rfl kr kr kr ((hgw.ext T263).lenV (T := 97) (el := 99) kr) ?_
 refine NS_i (((W.way a b).length : Int)) (0) (.bool true) rfl rfl kr kr kr kr rfl (by rw [hw]; rfl) ?_
 refine NS_nil ?_
 refine W_cond true kr (fun _ => ?_) (fun e => by cases e)
 refine W_seq ?_
 refine W_region ?_
 refine L_g 2 kr ?_
 refine L_nil ?_
 refine W_ret ?_
 repeat first | with_reducible refine then_ret ?_ | with_reducible refine blk_ret ?_
 refine done_of (v := .tuple ⟨[.bool false, nv 0]⟩) (.inl rfl) kr ?_
 exact ⟨rfl, T263⟩
set_option maxHeartbeats 1000000 in
theorem deliver_ok {W : Wd} {G : Gh} {h : AH} {a b : Nat} {x : Pk} {l : List Pk} (R : Rep W G h) (ha : a < W.n) (hb : b < W.n) (hw : W.way a b = x :: l) (hbig : (W.pr b).inb.length < big) :
  Arm.Calls Try.prog 13 [ptr (G.B .wd), nv (a : Int), nv (b : Int)] h (fun r => r.1 = .tuple ⟨[.bool true, nv 0]⟩ ∧ Nxt ((W.setWay a b l).setPr b { W.pr b with inb := (W.pr b).inb ++ [((a : Int), x)] }) G h r.2) := by
 have hbig : (W.pr b).inb.length < 1000000000 := hbig
 obtain ⟨csg, hgw, lsg⟩ := R.way (a : Int) (b : Int)
 obtain ⟨c0, ⟨v0, hv0, rfl⟩, hcl0, hcc0⟩ := lsg.get (i := 0) (x := x) (by rw [hw]; rfl)
 obtain ⟨ty, u, rfl⟩ := hv0.iface
 have hc0 : csg[0 * 1 + 0]? = some (Value.iface ty u) := hcc0 0 (by decide)
 refine Calls_of_W (n := 71) (fn := Try.f13) kr rfl rfl (Nat.le_of_ble_eq_true rfl) trivial ⟨.inr (by simp), rfl⟩ ?_
 have T0 : Sm Nix h h := .refl
 refine W_seq ?_
 refine W_region ?_
 refine L_g 2 kr ?_
 refine L_nil ?_
 refine W_seq ?_
 refine W_seq ?_
 refine W_region ?_
 refine L_g 3 kr ?_
 refine L_c rfl rfl kr (chan_ok (R.ext T0) ha hb) ?_
 rintro v264 h264 ⟨e264, t264⟩
 try dsimp only at e264
 try dsimp only at t264
 subst e264
 have T264 : Sm Nix h h264 := T0.ext t264
 have N264 := T264.nx
 have M264 := t264.nx
 refine L_g 1 kr ?_
 refine L_nil ?_
 refine W_seq ?_
 refine W_region ?_
 refine L_g 2 kr ?_
 refine L_nil ?_
 refine W_cond false kr (fun e => by cases e) (fun _ => ?_)
 refine W_skip ?_
 refine W_seq ?_
 refine W_region ?_
 refine L_g 3 kr ?_
 refine L_nw (Al.cells [nv 0, nv 0]) .ptr rfl rfl kr ?_
 have m265 : ¬ (Gh.mut G) h264.next ∧ ¬ (Gh.ro G) h264.next := ⟨(R.ext T264).op.new (Nat.le_refl _), (R.ext T264).op.newr (Nat.le_refl _)⟩
 have c265 : Cl (h264.push (Al.cells [nv 0, nv 0]).obj) h264.next [nv 0, nv 0] := Cl.new h264 _
 have t265 : Sm Nix h264 (h264.push (Al.cells [nv 0, nv 0]).obj) := .push h264 _
 have n265 : (h264.push (Al.cells [nv 0, nv 0]).obj).next = h264.next + 1 := rfl
 generalize h264.push (Al.cells [nv 0, nv 0]).obj = h265 at c265 t265 n265 ⊢
 have T265 : Sm Nix h h265 := T264.ext t265
 have N265 := T265.nx
 obtain ⟨h266, e266, d266, t266, n266⟩ := Cl.storeN (P := Try.prog) (T := 96) (n := 2) (v := .agg ⟨[nv (a : Int), nv (b : Int)]⟩) (cs := [nv (a : Int), nv (b : Int)]) c265 rfl kr rfl rfl (List.all_eq_true.1 rfl)
 replace c265 := d266
 have T266 : Sm Nix h h266 := T265.trans t266 (fun x hx => by have hx : x = h264.next := hx; first | exact .inr (by omega) | exact .inl (by subst hx; first | rfl | exact .inl rfl | exact .inr rfl | exact .inr (.inl rfl) | exact .inr (.inr rfl) | (show _ < _; omega)))
 have N266 := T266.nx
 refine L_st _ rfl rfl rfl kr kr (e266) ?_
 refine L_nil ?_
 refine W_seq ?_
 refine W_seq ?_
 refine W_drawn kr ?_
 refine D_l (l := [0, 1, 2, 3, 4, 5, 6, 7]) kr kr Rk_nil ?_
 refine NS_b 3 kr ?_
 refine NS_ld _ rfl rfl kr kr kr ((R.ext T266).wdL.ld (o := 2) kr rfl) ?_
 refine NS_ld _ rfl rfl kr kr kr (Cl.allN (n := 2) c265 rfl kr) ?_
 refine NS_lk _ rfl rfl kr kr kr kr (look_way (a := (a : Int)) (b := (b : Int)) (R.ext T266)) ?_
 refine NS_ln _ rfl rfl kr kr kr ((hgw.ext T266).lenV (T := 97) (el := 99) kr) ?_
 refine NS_i (((W.way a b).length : Int)) (0) (.bool false) rfl rfl kr kr kr kr rfl (by rw [hw]; simp; omega) ?_
 refine NS_nil ?_
 refine W_cond false kr (fun e => by cases e) (fun _ => ?_)
 refine W_skip ?_
 refine W_seq ?_
 refine W_drawn kr ?_
 refine D_e (e := 28) (l := [0, 1, 2, 3, 4, 5, 6, 7, 8, 9, 10, 11, 12, 13, 14, 15, 16, 17, 18, 19, 20, 21, 22, 23, 24, 25, 26, 27]) (s' := [0, 1, 2, 3, 4, 5, 6]) kr kr rfl kr Rk_nil ?_
 refine NS_b 3 kr ?_
 refine NS_ld _ rfl rfl kr kr kr ((R.ext T266).wdL.ld (o := 1) kr rfl) ?_
 refine NS_b 1 kr ?_
 obtain ⟨b1, o1, i1, l1, v1⟩ := (R.ext T266).prsAt2 (P := Try.prog) (T := 74) (el := 77) kr kr kr hb
 have lt1 := (R.ext T266).prsL.lt v1
 refine NS_ix _ rfl rfl kr kr kr kr (i1) ?_
 refine NS_ld _ rfl rfl kr kr kr (l1) ?_
 refine NS_b 3 kr ?_
 refine NS_ld _ rfl rfl kr kr kr ((R.ext T266).wdL.ld (o := 1) kr rfl) ?_
 refine NS_b 1 kr ?_
 refine NS_ix _ rfl rfl kr kr kr kr (i1) ?_
 refine NS_ld _ rfl rfl kr kr kr (l1) ?_
 refine NS_b 2 kr ?_
 refine NS_ld _ rfl rfl kr kr kr (((R.ext T266).prL hb).ld (o := 3) kr rfl) ?_
 refine NS_b 4 kr ?_
 refine NS_ld _ rfl rfl kr kr kr ((R.ext T266).wdL.ld (o := 2) kr rfl) ?_
 refine NS_ld _ rfl rfl kr kr kr (Cl.allN (n := 2) c265 rfl kr) ?_
 refine NS_lk _ rfl rfl kr kr kr kr (look_way (a := (a : Int)) (b := (b : Int)) (R.ext T266)) ?_
 obtain ⟨b9, o9, v9, i9, l9⟩ := (hgw.sd.ext T266).at (P := Try.prog) (T := 97) (el := 99) kr kr (show 0 < (W.way a b).length by rw [hw]; simp) .i64
 have lt9 := (hgw.ext T266).lt v9
 refine NS_ix _ rfl rfl kr kr kr kr (i9) ?_
 refine NS_ld _ rfl rfl kr kr kr (ld_cell kr (by have := l9 0 (by decide); rw [this]; exact hc0)) ?_
 refine NS_b 1 kr ?_
 refine NS_newR (Al.cells [nv (a : Int), .iface ty u]) (.sl 1 1) rfl kr rfl rfl kr (Rk_1 rfl rfl (Rk_1 rfl rfl (Rk_1 rfl rfl (Rk_ld _ rfl rfl rfl kr ((R.ext (T266.ext (.push h266 _))).wdL.ld (o := 1) kr rfl) kr (Rk_1 rfl rfl (Rk_1 rfl rfl (Rk_ld _ rfl rfl rfl kr (ldx (l1) (lt1) (.push h266 _)) kr (Rk_1 rfl rfl (Rk_1 rfl rfl (Rk_1 rfl rfl (Rk_ld _ rfl rfl rfl kr ((R.ext (T266.ext (.push h266 _))).wdL.ld (o := 1) kr rfl) kr (Rk_1 rfl rfl (Rk_1 rfl rfl (Rk_ld _ rfl rfl rfl kr (ldx (l1) (lt1) (.push h266 _)) kr (Rk_1 rfl rfl (Rk_1 rfl rfl (Rk_ld _ rfl rfl rfl kr (((R.ext (T266.ext (.push h266 _))).prL hb).ld (o := 3) kr rfl) kr (Rk_1 rfl rfl (Rk_1 rfl rfl (Rk_1 rfl rfl (Rk_1 rfl rfl (Rk_ld _ rfl rfl rfl kr ((R.ext (T266.ext (.push h266 _))).wdL.ld (o := 2) kr rfl) kr (Rk_ld _ rfl rfl rfl kr (Cl.allN (n := 2) (c265.ext (.push h266 _)) rfl kr) kr (Rk_lk _ rfl rfl rfl kr kr (look_way (a := (a : Int)) (b := (b : Int)) (R.ext (T266.ext (.push h266 _)))) kr (Rk_1 rfl rfl (Rk_ld _ rfl rfl rfl kr (ldx (ld_cell kr (by have := l9 0 (by decide); rw [this]; exact hc0)) (lt9) (.push h266 _)) kr (Rk_1 rfl rfl (Rk_1 rfl rfl Rk_nil)))))))))))))))))))))))))))) ?_
 have m267 : ¬ (Gh.mut G) h266.next ∧ ¬ (Gh.ro G) h266.next := ⟨(R.ext T266).op.new (Nat.le_refl _), (R.ext T266).op.newr (Nat.le_refl _)⟩
 have c267 : Cl (h266.push (Al.cells [nv (a : Int), .iface ty u]).obj) h266.next [nv (a : Int), .iface ty u] := Cl.new h266 _
 have t267 : Sm Nix h266 (h266.push (Al.cells [nv (a : Int), .iface ty u]).obj) := .push h266 _
 have n267 : (h266.push (Al.cells [nv (a : Int), .iface ty u]).obj).next = h266.next + 1 := rfl
 generalize h266.push (Al.cells [nv (a : Int), .iface ty u]).obj = h267 at c267 t267 n267 ⊢
 replace c265 := c265.ext t267
 have T267 : Sm Nix h h267 := T266.ext t267
 have N267 := T267.nx
 refine NS_nil ?_
 obtain ⟨csi, gi, lsi⟩ := (R.ext T267).inb hb
 obtain ⟨v268, h268, e268, g268, t268, f268⟩ := gi.append (P := Try.prog) (sT := 81) (xT := 81) (el := 101) (by_ := 24) (z := (.agg ⟨[.int .i64 0, .nilIface]⟩)) (m := 1) (ds := [nv (a : Int), .iface ty u]) kr kr kr kr kr rfl (by decide) (cl_sdk 2 c267 rfl) (List.all_eq_true.1 rfl) (by omega)
 obtain ⟨va, vc, rfl⟩ := g268.sd.form
 have l9' := c265.lt
 have inbC : G.C (.inb b) ≠ .no := by obtain ⟨cs, e, _⟩ := (R.rel.pr b hb).inb; rw [e]; simp
 have hnw1 : ¬ vb (G.S (.inb b)) = some (G.B .wd) := fun e => R.op.ne (r := .inb b) (r' := .wd) inbC (by rw [R.rel.wd]; simp) (by simp) (vb_vbx e) rfl
 have hnw2 : ∀ x, vb (G.S (.inb b)) = some x → ¬ vb (G.S .prs) = some x := fun x e e2 => R.op.ne (r := .inb b) (r' := .prs) inbC (by rw [R.rel.prs]; simp) (by simp) (vb_vbx e) (vb_vbx e2)
 have mK9 := m265
 have mK5 := m267
 refine L_bi (.slice va ((W.pr b).inb.length + 1) vc) h268 rfl rfl kr (vs := [G.S (.inb b), .slice (some ⟨h266.next, 0, none⟩) 1 1]) kr (bi_append e268) ?_
 replace c265 := c265.sm t268 (by first | exact fun e => mK9.1 ⟨.inb b, inbC, vb_vbx e⟩ | exact fun e => mK5.1 ⟨.inb b, inbC, vb_vbx e⟩)
 replace c267 := c267.sm t268 (by first | exact fun e => mK9.1 ⟨.inb b, inbC, vb_vbx e⟩ | exact fun e => mK5.1 ⟨.inb b, inbC, vb_vbx e⟩)
 have T268 : Sm (fun c => vb (G.S (.inb b)) = some c) h267 h268 := t268
 have N268 := T268.nx
 refine L_nil ⟨rfl, ?_⟩
 refine D_e (e := 31) (l := [29, 30]) (s' := []) kr kr rfl kr (Rk_1 rfl rfl (Rk_1 rfl rfl (Rk_1 rfl rfl (Rk_ld _ rfl rfl rfl kr (((R.ext T267).wdL.sm T268 hnw1).ld (o := 1) kr rfl) kr (Rk_1 rfl rfl (Rk_1 rfl rfl (Rk_ld _ rfl rfl rfl kr (ld_sm kr (ld_sm kr l1 t267 lt1 (fun x => x)) T268 (Nat.lt_of_lt_of_le lt1 (t267).nx) (fun e => hnw2 b1 e v1)) kr Rk_nil))))))) ?_
 refine NS_b 2 kr ?_
 refine NS_nil ?_
 have Rb := R.ext T267
 have hnw : ¬ vb (G.S (.inb b)) = some (G.B (.pr b)) := fun e => Rb.op.ne (r := .inb b) (r' := .pr b) (by obtain ⟨cs, e, _⟩ := (Rb.rel.pr b hb).inb; rw [e]; simp) (by rw [(Rb.rel.pr b hb).pr]; simp) (by simp) (vb_vbx e) rfl
 obtain ⟨h269, e269, d269, t269, n269⟩ := ((Rb.prL hb).sm T268 hnw).store (P := Try.prog) (T := 81) (o := 3) (v := .slice va ((W.pr b).inb.length + 1) vc) kr rfl rfl (by simp [prC])
 have hlen : ((W.pr b).inb ++ [((a : Int), x)]).length = (W.pr b).inb.length + 1 := by simp
 rw [← hlen] at d269
 have hN := Rb.setInb hb (l := (W.pr b).inb ++ [((a : Int), x)]) (lsi.app (Ls.one ⟨_, hv0.mono (R.op.dr (T267).of), rfl⟩ rfl)) (by rw [hlen]; exact g268) T268 (fun c hc => .inl hc) (fun c hc => by rw [hlen] at hc; exact f268 c hc) d269 t269
 obtain ⟨S9, C9, ro9, R9, Y9⟩ := hN
 have X9 := (Gx.of T267).trans Y9
 have l99 := c265.lt
 have mA9 : ¬ (Gh.mut ⟨G.B, S9, C9, ro9⟩) (h264.next) ∧ ¬ ro9 (h264.next) := ⟨fun hm => (Y9.mu _ hm).elim mK9.1 (fun e => by omega), fun hm => (Y9.ron _ hm).elim mK9.2 (fun e => by omega)⟩
 have hpl := R.prLt hb
 refine L_st _ rfl rfl rfl kr kr (e269) ?_
 replace c265 := c265.sm t269 (show ¬ _ = _ by omega)
 have T269 : Sm (Ow h ⟨G.B, S9, C9, ro9⟩) h269 h269 := .refl
 refine L_nil ⟨rfl, ?_⟩
 refine D_l (l := []) kr kr Rk_nil ?_
 refine NS_nil ?_
 refine W_seq ?_
 refine W_drawn kr ?_
 refine D_e (e := 12) (l := [0, 1, 2, 3, 4, 5, 6, 7, 8, 9, 10, 11]) (s' := []) kr kr rfl kr Rk_nil ?_
 refine NS_b 3 kr ?_
 refine NS_ld _ rfl rfl kr kr kr ((R9.ow T269).wdL.ld (o := 2) kr rfl) ?_
 refine NS_ld _ rfl rfl kr kr kr (Cl.allN (n := 2) c265 rfl kr) ?_
 refine NS_b 3 kr ?_
 refine NS_ld _ rfl rfl kr kr kr ((R9.ow T269).wdL.ld (o := 2) kr rfl) ?_
 refine NS_ld _ rfl rfl kr kr kr (Cl.allN (n := 2) c265 rfl kr) ?_
 refine NS_lk _ rfl rfl kr kr kr kr (look_way (a := (a : Int)) (b := (b : Int)) (R9.ow T269)) ?_
 obtain ⟨csw, gw, lsw⟩ := (R9.ow T269).way (a : Int) (b : Int)
 have gw : Gr h269 1 (S9 (.way (a : Int) (b : Int))) (W.way a b).length csw := gw
 have lsw : Ls (RPk h269 ro9) 1 (W.way a b) csw := lsw
 rw [hw] at gw lsw
 obtain ⟨vt, et, gt, bt⟩ := gw.tailK (P := Try.prog) (T := 97) (el := 99) kr kr
 obtain ⟨cw, _, hcl9, _, lst⟩ := lsw.tail
 refine NS_sl _ rfl rfl kr kr kr kr kr kr (et) ?_
 refine NS_nil ?_
 obtain ⟨m9, hm9, hmb9, hmC9, hmN9, hmS9⟩ := (R9.ow T269).waysN
 obtain ⟨h270, e270, mp270, t270, n270⟩ := hm9.update (P := Try.prog) (T := 73) (el := 97) kr k_way ((a : Int), (b : Int)) (v := vt) (y := vt) rfl
 have N270 : Nxt ((W.setPr b { W.pr b with inb := (W.pr b).inb ++ [((a : Int), x)] }).setWay a b l) (⟨G.B, S9, C9, ro9⟩ : Gh) h269 h270 := (R9.ow T269).setWay a b (l := l) (v := vt) (kset_nodup hmN9 _ _) (hw_kset (G := (⟨G.B, S9, C9, ro9⟩ : Gh)) hmS9) lst gt Sm.refl (fun c hc => (show False from hc).elim) (fun c hc => .inl (bt ▸ hc)) mp270 (hmb9.update e270) t270
 refine L_mu _ rfl rfl rfl kr kr kr e270 ?_
 obtain ⟨S270, C270, ro270, R270, Y270⟩ := N270
 have X270 := ((X9).ow T269).trans Y270
 have mA9_270 : ¬ (Gh.mut ⟨Gh.B (⟨G.B, S9, C9, ro9⟩ : Gh), S270, C270, ro270⟩) (h264.next) ∧ ¬ (Gh.ro ⟨Gh.B (⟨G.B, S9, C9, ro9⟩ : Gh), S270, C270, ro270⟩) (h264.next) := ⟨fun hm => (Y270.mu _ hm).elim mA9.1 (fun e => by have := c265.lt; omega), fun hm => (Y270.ron _ hm).elim mA9.2 (fun e => by have := c265.lt; omega)⟩
 replace c265 := c265.sm Y270.sm mA9.1
 have T270 : Sm (Ow h (⟨Gh.B (⟨G.B, S9, C9, ro9⟩ : Gh), S270, C270, ro270⟩ : Gh)) h270 h270 := .refl
 refine L_nil ⟨rfl, ?_⟩
 refine D_l (l := []) kr kr Rk_nil ?_
 refine NS_nil ?_
 refine W_seq ?_
 refine W_region ?_
 refine L_g 2 kr ?_
 refine L_nil ?_
 refine W_ret ?_
 repeat first | with_reducible refine then_ret ?_ | with_reducible refine blk_ret ?_
 refine done_of (v := .tuple ⟨[.bool true, nv 0]⟩) (.inl rfl) kr ?_
 have ew : (W.setPr b { W.pr b with inb := (W.pr b).inb ++ [((a : Int), x)] }).setWay (a : Int) (b : Int) l = (W.setWay (a : Int) (b : Int) l).setPr b { W.pr b with inb := (W.pr b).inb ++ [((a : Int), x)] } := rfl
 exact ⟨rfl, _, _, _, ew ▸ (R270.ow T270), ((X270).ow T270)⟩
end
end Go.Proofs.Ytmehemeoaplepaa
namespace Go.Proofs.Ytmehemeoaplepaa
noncomputable section
open Go Go.X Go.Arm Go.Mt
theorem gt_nat (n : Nat) : Value.bool (decide ((0 : Int) < (n : Int))) = Value.bool (decide (0 < n)) := by
 congr 1; by_cases h : 0 < n <;> simp [h]
theorem kget_memk {κ β : Type} [DecidableEq κ] {l : List (κ × β)} {k : κ} {n : β} (h : kget l k = some n) : ∃ x, x ∈ l ∧ x.1 = k := by
 induction l with
 | nil => cases h
 | cons y l ih =>
  unfold kget at h
  split at h
  · rename_i e; exact ⟨y, List.mem_cons.2 (.inl rfl), e⟩
  · obtain ⟨x, h1, h2⟩ := ih h; exact ⟨x, List.mem_cons_of_mem _ h1, h2⟩
theorem quiet_iff {W : Wd} (hw : ∀ a b, W.way a b = []) : (!((List.range W.n).findIdx? (fun p => decide (0 < (W.pr p).inb.length))).isSome) = true ↔ W.quiet := by
 cases hf : (List.range W.n).findIdx? (fun p => decide (0 < (W.pr p).inb.length)) with
 | none =>
  refine ⟨fun _ => ⟨hw, fun p hp => ?_⟩, fun _ => rfl⟩
  have := List.findIdx?_eq_none_iff.1 hf p (List.mem_range.2 hp)
  have h0 : ¬ 0 < (W.pr p).inb.length := by simpa using this
  exact List.length_eq_zero_iff.1 (by omega)
 | some i =>
  refine ⟨(fun h => by cases h), fun hq => ?_⟩
  rw [List.findIdx?_eq_some_iff_getElem] at hf
  obtain ⟨h1, h2, _⟩ := hf
  simp at h1 h2
  have := hq.2 i h1
  rw [this] at h2; simp at h2
theorem ixf_pr {h : AH} {s : Value} {g : FuncId} {cs : List Value} {α : Type} {l : List α} {pr : α → Bool} (H : Sd h 1 s l.length cs) (hl : l.length < big) (hg : ∀ vs h, aCallX Try.prog g vs h = some [(.enter g vs, h)])
  (hc : ∀ (i : Nat) x, l[i]? = some x → ∃ v, cs[i]? = some v ∧ ∀ h', Sm Nix h h' → Arm.Calls Try.prog g [v] h' (fun r => r.1 = .bool (pr x) ∧ Sm Nix h' r.2)) :
  Arm.Calls Try.prog 58 [s, .func (.func g) ⟨[]⟩ ⟨[]⟩] h (fun r => r.1 = nv (match l.findIdx? pr with | some i => (i : Int) | none => -1) ∧ Sm Nix h r.2) := by
 have hl : l.length < 1000000000 := hl
 refine Calls_of_W (n := 19) (fn := Try.f58) kr rfl rfl (Nat.le_of_ble_eq_true rfl) trivial ⟨.inr (by simp), rfl⟩ ?_
 have T0 : Sm Nix h h := .refl
 refine W_seq ?_
 refine W_region ?_
 refine L_g 1 kr ?_
 refine L_nil ?_
 refine W_seq ?_
 refine W_seq ?_
 refine W_region ?_
 refine L_g 1 kr ?_
 refine L_ln _ rfl rfl kr ((H.ext T0).len (T := 74) (el := 77) kr) ?_
 refine L_g 1 kr ?_
 refine L_nil ?_
 refine W_block ?_
 refine W_loop (fun mm fr hh => ∃ (k : Nat), (k ≤ l.length) ∧ (l.findIdx? pr = ((l.drop k).findIdx? pr).map (· + k)) ∧ mm = l.length - k ∧ fr 0 = s ∧ fr 1 = .func (.func g) ⟨[]⟩ ⟨[]⟩ ∧ fr 7 = nv (l.length : Int) ∧ fr 8 = nv (k : Int) ∧ Sm Nix h hh) (l.length) ?_ ?_
 ·
  exact ⟨0, Nat.zero_le _, by simp, rfl, kr, kr, kr, kr, T0⟩
 rintro mm278 fr278 h278 ⟨k, hk, hf, hm278, y278_0, y278_1, y278_7, y278_8, T278⟩
 have N278 := T278.nx
 refine W_set (k := 0) y278_0 ?_
 refine W_set (k := 1) y278_1 ?_
 refine W_set (k := 7) y278_7 ?_
 refine W_set (k := 8) y278_8 ?_
 refine W_seq ?_
 refine W_region ?_
 refine L_g 1 kr ?_
 refine L_nil ?_
 refine W_seq ?_
 refine W_cond (decide ((k : Int) < (l.length : Nat))) kr (fun hb => ?_) (fun hb => ?_)
 ·
  have hlt : k < l.length := by simp at hb; omega
  obtain ⟨x, hx⟩ : ∃ x, l[k]? = some x := ⟨_, List.getElem?_eq_getElem hlt⟩
  have hdr : l.drop k = x :: l.drop (k + 1) := by rw [List.drop_eq_getElem_cons hlt]; congr 1; exact (List.getElem?_eq_some_iff.1 hx).2
  obtain ⟨v, hv, hcall⟩ := hc k x hx
  obtain ⟨b9, o9, _, i9, l9⟩ := (H.ext T278).at (P := Try.prog) (T := 74) (el := 77) kr kr hlt .i64
  refine W_skip ?_
  refine W_seq ?_
  refine W_block ?_
  refine W_seq ?_
  refine W_region ?_
  refine L_g 2 kr ?_
  refine L_nil ?_
  refine W_seq ?_
  refine W_region ?_
  refine L_g 3 kr ?_
  refine L_ix _ rfl rfl kr kr (i9) ?_
  refine L_ld _ rfl rfl kr (ld_cell kr (by have := l9 0 (by decide); rw [Nat.add_zero, Nat.mul_one, Nat.add_zero] at this; rw [this]; exact hv)) ?_
  refine L_c rfl rfl (Eq.trans (b := aCallX Try.prog g [v] h278) kr (hg _ _)) (hcall _ T278) ?_
  rintro v279 h279 ⟨e279, t279⟩
  try dsimp only at e279
  try dsimp only at t279
  subst e279
  have T279 : Sm Nix h h279 := T278.ext t279
  have N279 := T279.nx
  have M279 := t279.nx
  refine L_nil ?_
  refine W_cond (pr x) kr (fun hb => ?_) (fun hb => ?_)
  ·
   have hres : nv (match l.findIdx? pr with | some i => (i : Int) | none => -1) = nv (k : Int) := by rw [hf, hdr, List.findIdx?_cons, hb]; simp
   rw [hres]
   refine W_seq ?_
   refine W_region ?_
   refine L_g 2 kr ?_
   refine L_nil ?_
   refine W_ret ?_
   repeat first | with_reducible refine then_ret ?_ | with_reducible refine blk_ret ?_
   refine done_of (v := nv (k : Int)) (.inl rfl) kr ?_
   exact ⟨rfl, T279⟩
  ·
   have hfb : pr x = false := hb
   refine W_skip ?_
   refine W_region ?_
   refine L_i ((k : Int)) (1) (nv ((k + 1 : Nat) : Int)) rfl rfl kr kr rfl (inc_ok (by omega)) ?_
   refine L_g 1 kr ?_
   refine L_nil ?_
   exact ⟨l.length - (k + 1), by omega, k + 1, by omega, find_step hf hdr hfb, rfl, kr, kr, kr, kr, T279⟩
 ·
  have hge : k = l.length := by simp at hb; omega
  have hres : nv (match l.findIdx? pr with | some i => (i : Int) | none => -1) = nv (-1) := by rw [hf, hge]; simp
  rw [hres]
  refine W_exit ?_
  repeat with_reducible refine then_exit ?_
  refine exit_here ?_
  refine W_seq ?_
  refine W_region ?_
  refine L_g 1 kr ?_
  refine L_nil ?_
  refine W_ret ?_
  repeat first | with_reducible refine then_ret ?_ | with_reducible refine blk_ret ?_
  refine done_of (v := nv (-1)) (.inl rfl) kr ?_
  exact ⟨rfl, T278⟩
theorem quiet1_ok {W : Wd} {G : Gh} {h : AH} {p : Nat} (R : Rep W G h) (hp : p < W.n) :
  Arm.Calls Try.prog 49 [ptr (G.B (.pr p))] h (fun r => r.1 = .bool (decide (0 < (W.pr p).inb.length)) ∧ Sm Nix h r.2) := by
 obtain ⟨cs, g0, ls⟩ := R.inb hp
 refine Calls_of_W (n := 9) (fn := Try.f49) kr rfl rfl (Nat.le_of_ble_eq_true rfl) trivial ⟨.inr (by simp), rfl⟩ ?_
 have T0 : Sm Nix h h := .refl
 refine W_seq ?_
 refine W_region ?_
 refine L_g 1 kr ?_
 refine L_nil ?_
 refine W_seq ?_
 refine W_region ?_
 refine L_g 3 kr ?_
 refine L_ld _ rfl rfl kr (((R.ext T0).prL hp).ld (o := 3) kr rfl) ?_
 refine L_ln _ rfl rfl kr ((g0.ext T0).lenV (T := 81) (el := 101) kr) ?_
 refine L_i (((W.pr p).inb.length : Int)) (0) (.bool (decide (0 < (W.pr p).inb.length))) rfl rfl kr kr rfl (gt_nat _) ?_
 refine L_g 1 kr ?_
 refine L_nil ?_
 refine W_ret ?_
 repeat first | with_reducible refine then_ret ?_ | with_reducible refine blk_ret ?_
 refine done_of (v := .bool (decide (0 < (W.pr p).inb.length))) (.inl rfl) kr ?_
 exact ⟨rfl, T0⟩
theorem qcf_ok {W : Wd} {G : Gh} {h : AH} (R : Rep W G h) (hn : W.n < big) :
  Arm.Calls Try.prog 48 [G.S .prs, .func (.func 49) ⟨[]⟩ ⟨[]⟩] h (fun r => r.1 = .bool ((List.range W.n).findIdx? (fun p => decide (0 < (W.pr p).inb.length))).isSome ∧ Sm Nix h r.2) := by
 have hix := ixf_pr (pr := fun p => decide (0 < (W.pr p).inb.length)) (l := List.range W.n) (by rw [List.length_range]; exact R.prsL) (by rw [List.length_range]; exact hn) (g := 49) (fun _ _ => rfl) (fun i x hx => by
  obtain ⟨hl, e⟩ := List.getElem?_eq_some_iff.1 hx
  simp at hl e; subst e
  exact ⟨_, by rw [List.getElem?_map, List.getElem?_range hl]; rfl, fun h' t => quiet1_ok (R.ext t) hl⟩)
 cases hf : (List.range W.n).findIdx? (fun p => decide (0 < (W.pr p).inb.length)) with
 | none =>
  rw [hf] at hix
  refine Calls_of_W (n := 9) (fn := Try.f48) kr rfl rfl (Nat.le_of_ble_eq_true rfl) trivial ⟨.inr (by simp), rfl⟩ ?_
  have T0 : Sm Nix h h := .refl
  refine W_seq ?_
  refine W_region ?_
  refine L_g 1 kr ?_
  refine L_nil ?_
  refine W_seq ?_
  refine W_region ?_
  refine L_g 2 kr ?_
  refine L_c rfl rfl kr (hix) ?_
  rintro v271 h271 ⟨e271, t271⟩
  try dsimp only at e271
  try dsimp only at t271
  subst e271
  have T271 : Sm Nix h h271 := T0.ext t271
  have N271 := T271.nx
  have M271 := t271.nx
  refine L_i (-1) (0) (.bool false) rfl rfl kr kr rfl (by first | (simp; done) | (simp; omega)) ?_
  refine L_g 1 kr ?_
  refine L_nil ?_
  refine W_ret ?_
  repeat first | with_reducible refine then_ret ?_ | with_reducible refine blk_ret ?_
  refine done_of (v := .bool false) (.inl rfl) kr ?_
  exact ⟨rfl, T271⟩
 | some i =>
  rw [hf] at hix
  refine Calls_of_W (n := 9) (fn := Try.f48) kr rfl rfl (Nat.le_of_ble_eq_true rfl) trivial ⟨.inr (by simp), rfl⟩ ?_
  have T0 : Sm Nix h h := .refl
  refine W_seq ?_
  refine W_region ?_
  refine L_g 1 kr ?_
  refine L_nil ?_
  refine W_seq ?_
  refine W_region ?_
  refine L_g 2 kr ?_
  refine L_c rfl rfl kr (hix) ?_
  rintro v272 h272 ⟨e272, t272⟩
  try dsimp only at e272
  try dsimp only at t272
  subst e272
  have T272 : Sm Nix h h272 := T0.ext t272
  have N272 := T272.nx
  have M272 := t272.nx
  refine L_i ((i : Int)) (0) (.bool true) rfl rfl kr kr rfl (by first | (simp; done) | (simp; omega)) ?_
  refine L_g 1 kr ?_
  refine L_nil ?_
  refine W_ret ?_
  repeat first | with_reducible refine then_ret ?_ | with_reducible refine blk_ret ?_
  refine done_of (v := .bool true) (.inl rfl) kr ?_
  exact ⟨rfl, T272⟩
theorem quiet_ok {W : Wd} {G : Gh} {h : AH} (R : Rep W G h) (hn : W.n < big) :
  Arm.Calls Try.prog 28 [ptr (G.B .wd)] h (fun r => ∃ b, r.1 = .bool b ∧ (b = true ↔ W.quiet) ∧ Sm Nix h r.2) := by
 obtain ⟨m, hm, hmb, hmC, hmN, hmS⟩ := R.waysN
 have hwl := R.waysLt
 refine Calls_of_W (n := 26) (fn := Try.f28) kr rfl rfl (Nat.le_of_ble_eq_true rfl) trivial ⟨.inr (by simp), rfl⟩ ?_
 have T0 : Sm Nix h h := .refl
 refine W_seq ?_
 refine W_region ?_
 refine L_g 1 kr ?_
 refine L_nil ?_
 refine W_seq ?_
 refine W_seq ?_
 refine W_region ?_
 refine L_g 1 kr ?_
 refine L_c rfl rfl kr (valid_ok (R.ext T0)) ?_
 rintro v273 h273 ⟨e273, t273⟩
 try dsimp only at e273
 try dsimp only at t273
 subst e273
 have T273 : Sm Nix h h273 := T0.ext t273
 have N273 := T273.nx
 have M273 := t273.nx
 refine L_g 1 kr ?_
 refine L_nil ?_
 refine W_cond false kr (fun e => by cases e) (fun _ => ?_)
 refine W_skip ?_
 refine W_seq ?_
 refine W_seq ?_
 refine W_region ?_
 refine L_g 3 kr ?_
 refine L_ld _ rfl rfl kr ((R.ext T273).wdL.ld (o := 2) kr rfl) ?_
 obtain ⟨h274, e274, ⟨c0, hI0⟩, t274, n274⟩ := Itr.start (P := Try.prog) (T := 73) (kt := 96) (el := 97) kr (hm.sm T273 (fun x => x) (fun _ _ e => e)) (hmb.sm T273 hm.1 (fun x => x))
 refine L_rg _ rfl rfl kr e274 ?_
 have T274 : Sm Nix h h274 := T273.ext t274
 have N274 := T274.nx
 refine L_nil ?_
 refine W_block ?_
 refine W_loop (fun mm fr hh => ∃ dn : Nat → Prop, Itr hh h273.next (G.B .ways) k2 Eq m dn mm ∧ Sm Nix h hh ∧ (∀ i x, m[i]? = some x → dn i → W.way x.1.1 x.1.2 = []) ∧ fr 0 = ptr (G.B .wd) ∧ fr 12 = .pointer (some ⟨h273.next, 0, none⟩)) (c0) ?_ ?_
 ·
  exact ⟨_, hI0, T274, fun i x _ hd => hd.elim, kr, kr⟩
 clear hI0
 rintro mm fr hh ⟨dn, hI, TL, hdn, y0, y12⟩
 refine W_set (k := 0) y0 ?_
 refine W_set (k := 12) y12 ?_
 have NL := TL.nx
 refine W_seq ?_
 refine W_region ?_
 refine L_nx rfl rfl kr hI (fun hall => ?_) (fun ie e vnx cnx hnx hie hndn hRv hcl hInx tnx nnx henx => ?_)
 ·
  have hway : ∀ a b, W.way a b = [] := by
   intro a b
   cases hk : kget m (a, b) with
   | none =>
    obtain ⟨csw, gw, _⟩ := R.way a b
    have hs := hmS a b
    rw [hk] at hs
    rw [← hs] at gw
    obtain ⟨a', c', e'⟩ := gw.sd.form
    have e' : Value.slice none 0 0 = Value.slice a' (W.way a b).length c' := e'
    cases hw : W.way a b with
    | nil => rfl
    | cons y l => rw [hw] at e'; cases e'
   | some v =>
    obtain ⟨x, hx, hxv⟩ := kget_memk hk
    obtain ⟨i, hi, hie⟩ := List.getElem_of_mem hx
    have := hdn i x (by rw [List.getElem?_eq_getElem hi, hie]) (hall i hi)
    rw [hxv] at this; exact this
  refine L_g 1 kr ?_
  refine L_nil ?_
  refine W_seq ?_
  refine W_cond false kr (fun e => by cases e) (fun _ => ?_)
  refine W_exit ?_
  repeat with_reducible refine then_exit ?_
  refine exit_here ?_
  refine W_seq ?_
  refine W_region ?_
  refine L_g 3 kr ?_
  refine L_ld _ rfl rfl kr ((R.ext TL).wdL.ld (o := 1) kr rfl) ?_
  refine L_c rfl rfl kr (qcf_ok (R.ext TL) hn) ?_
  rintro v276 h276 ⟨e276, t276⟩
  try dsimp only at e276
  try dsimp only at t276
  subst e276
  have T276 : Sm Nix h h276 := TL.ext t276
  have N276 := T276.nx
  have M276 := t276.nx
  refine L_g 2 kr ?_
  refine L_nil ?_
  refine W_ret ?_
  repeat first | with_reducible refine then_ret ?_ | with_reducible refine blk_ret ?_
  refine done_of (v := .bool (!((List.range W.n).findIdx? (fun p => decide (0 < (W.pr p).inb.length))).isSome)) (.inl rfl) kr ?_
  exact ⟨_, rfl, quiet_iff hway, T276⟩
 ·
  have Tnx : Sm Nix h hnx := TL.trans tnx (fun b hb => .inr (by have hb : b = h273.next := hb; omega))
  have Nnx := Tnx.nx
  have hge := kget_nodup hmN (List.mem_of_getElem? hie)
  have hse := hmS e.1.1 e.1.2
  rw [hge] at hse
  obtain ⟨csw, gw, _⟩ := R.way e.1.1 e.1.2
  rw [← hse, show (some e.2).getD nilS = vnx from hRv.symm] at gw
  refine L_g 1 kr ?_
  refine L_nil ?_
  refine W_seq ?_
  refine W_cond true kr (fun _ => ?_) (fun e => by cases e)
  refine W_skip ?_
  refine W_block ?_
  refine W_seq ?_
  refine W_region ?_
  refine L_p (.tuple ⟨[k2 e.1, vnx]⟩) rfl (by exact henx) ?_
  refine L_g 2 kr ?_
  refine L_nil ?_
  refine W_seq ?_
  by_cases hemp : W.way e.1.1 e.1.2 = []
  ·
   refine W_region ?_
   refine L_g 1 kr ?_
   refine L_ln _ rfl rfl kr ((gw.ext Tnx).lenV (T := 97) (el := 99) kr) ?_
   refine L_i (((W.way e.1.1 e.1.2).length : Int)) (0) (.bool false) rfl rfl kr kr rfl (by rw [hemp]; rfl) ?_
   refine L_nil ?_
   refine W_cond false kr (fun e => by cases e) (fun _ => ?_)
   refine W_skip ?_
   exact ⟨cnx, hcl, _, hInx, Tnx, fun i x hx hd => by
    rcases hd with rfl | hd
    · rw [hx] at hie; cases hie; exact hemp
    · exact hdn i x hx hd, kr, kr⟩
  ·
   refine W_region ?_
   refine L_g 1 kr ?_
   refine L_ln _ rfl rfl kr ((gw.ext Tnx).lenV (T := 97) (el := 99) kr) ?_
   refine L_i (((W.way e.1.1 e.1.2).length : Int)) (0) (.bool true) rfl rfl kr kr rfl (by have := List.length_pos_iff.2 hemp; simp; omega) ?_
   refine L_nil ?_
   refine W_cond true kr (fun _ => ?_) (fun e => by cases e)
   refine W_seq ?_
   refine W_region ?_
   refine L_g 1 kr ?_
   refine L_nil ?_
   refine W_ret ?_
   repeat first | with_reducible refine then_ret ?_ | with_reducible refine blk_ret ?_
   refine done_of (v := .bool false) (.inl rfl) kr ?_
   exact ⟨_, rfl, ⟨(fun e9 => by cases e9), fun hq => (hemp (hq.1 _ _)).elim⟩, Tnx⟩
end
end Go.Proofs.Ytmehemeoaplepaa
namespace Go.Arm
section
variable {N p i : Nat} {L : Lf} {x : TE}
end
end Go.Arm
namespace Go.Arm
section
variable {N : Nat} {L : Lf} {C : TC} {S : Sf}
theorem Inv.all (hC : Okc C) (hL : Okl N L) : ∀ (k : Nat) {S : Sf}, Inv N L S → Inv N L (allR N L C k S)
 | 0, S, I => I
 | k + 1, S, I => by
  unfold allR
  have h1 := (I.rnd hC hL N (Nat.le_refl _)).1
  split
  · exact Inv.all hC hL k h1
  · exact h1
structure Good (N : Nat) (L : Lf) (C : TC) : Prop where
 n0 : 0 < N
 n1 : N ≤ 64
 len : ∀ p, p < N → (L p).length ≤ 10000
 c : Okc C
 d : Dn N L (timesS N L C)
theorem Dn.at (D : Dn N L S) {p i : Nat} (h : i < (S p).length) : ∃ x s, (L p)[i]? = some x ∧ (S p)[i]? = some s ∧ okE N ((L p).take i) x = true ∧ p < N ∧
   (s.y = 0 ∧ s.w = 0 ∨ s.y = 1 ∧ x.k = 2 ∧ (∃ q j : Nat, x.p = (q : Int) ∧ q < N ∧ fnd (L q) 1 p x.n = some j ∧ j < (S q).length) ∨ s.y = 2 ∧ x.k = 3 ∧ ∃ c, opn L S x.n N = some (some c) ∧ c.2.1 < N ∧ c.2.2 < (S c.2.1).length) := by
 have hl : i < (L p).length := by rw [← D.d]; exact h
 have hx : (L p)[i]? = some (L p)[i] := List.getElem?_eq_getElem hl
 have hs : (S p)[i]? = some (S p)[i] := List.getElem?_eq_getElem h
 generalize (L p)[i] = x at hx
 generalize (S p)[i] = s at hs
 obtain ⟨rk, R⟩ := D.r
 have hp : p < N := by
   refine Nat.lt_of_not_le fun hle => ?_
   rw [D.g.hi p hle] at h; simp at h
 have hok := D.l.ev p i x hx
 refine ⟨x, s, hx, hs, hok, hp, ?_⟩
 obtain ⟨y1, y2, y3, y4⟩ := R.y1 p i x s hs hx
 rcases y3 with h0 | h1 | h2
 · exact .inl ⟨h0, y4 h0⟩
 · have hk := y1 h1
   refine .inr (.inl ⟨h1, hk, ?_⟩)
   unfold okE at hok
   rw [if_neg (by omega), if_pos hk] at hok
   simp [peerOk] at hok
   have hq : x.p = ((x.p.toNat : Nat) : Int) := by omega
   have hsn := D.l.snt p x (List.mem_of_getElem? hx) hk
   obtain ⟨j, hj⟩ := Option.isSome_iff_exists.1 hsn
   exact ⟨x.p.toNat, j, hq, by omega, hj, (R.rcv p i x h hx hk j hj).1⟩
 · have hk := y2 h2
   refine .inr (.inr ⟨h2, hk, ?_⟩)
   cases ho : opn L S x.n N with
   | none =>
    exfalso
    have : ∀ k, k ≤ N → opn L S x.n k ≠ none := by
     intro k
     induction k with
     | zero => intro _ h; cases h
     | succ k ih =>
      intro hk2 h3
      unfold opn at h3
      split at h3
      · rename_i h4; exact ih (by omega) h4
      · split at h3
        · cases h3
        · rename_i j hj
          split at h3
          · rename_i h5
            have := (R.mt p i x h hx hk k (by omega) j hj).1
            omega
          · cases h3
    exact this N (Nat.le_refl _) ho
   | some c =>
    cases c with
    | none =>
     exfalso
     have h6 := opn_one N ho p hp
     unfold fnd at h6
     rw [List.findIdx?_eq_none_iff] at h6
     have := h6 x (List.mem_of_getElem? hx)
     simp [fits, hk] at this
    | some c =>
     obtain ⟨_, _, hq, hf, _, hle⟩ := D.g.opn x.n N c ho
     refine ⟨c, rfl, hq, ?_⟩
     have h7 : c.2.2 < (L c.2.1).length := by
      unfold fnd at hf
      exact (List.findIdx?_eq_some_iff_findIdx_eq.1 hf).1
     rw [D.d]; exact h7
end
end Go.Arm
namespace Go.Arm
noncomputable section
open Go Go.X
section
variable {P : Program} {n : Nat} {T el : TypeId}
theorem ev_mkK {f : Fr} {x y : Operand} {m by_ k : Nat} {z : Value} (hT : P.underlying T = some (.slice el)) (hs : szOf P el = some k) (hb : byOf P el = some by_) (hz : zeroOf P el = some z) (hzl : (cellsL z).length = k) (hm : m * (by_ + 1) < 1099511627776)
  (hx : ev n f x = some (.int .i64 (m : Nat))) (hy : ev n f y = some (.int .i64 (m : Nat))) : evAl P n f (.makeSlice T x y) = some (.cells (zrep m (cellsL z)), .sl m m) := by
 have hm2 : m < 1099511627776 := by
  have : m * 1 ≤ m * (by_ + 1) := Nat.mul_le_mul_left _ (by omega)
  omega
 have e0 : evAl0 P n f (.makeSlice T x y) = some (.cells (zrep m (cellsL z)), .sl m m) := by
  unfold evAl0
  simp only [hx, hy, hT, hs, hb, hz]
  rw [if_pos ⟨by omega, by omega, by
   have h9 : ((m * (by_ + 1) : Nat) : Int) < ((1099511627776 : Nat) : Int) := Int.ofNat_lt.2 hm
   rw [Int.natCast_mul, Int.natCast_add] at h9
   exact h9, hzl⟩]
  simp only [Int.toNat_natCast]
 unfold evAl
 rw [e0]
 dsimp only
 rw [if_pos]
 show decide (m < open_) = true
 rw [decide_eq_true_eq]
 have : 1099511627776 < open_ := by decide
 omega
end
end
end Go.Arm
namespace Go.Arm
noncomputable section
open Go Go.X
section
variable {P : Program} {h : AH} {b n k : Nat} {T el : TypeId} {x y : Value}
theorem bnd_nat' (i d : Nat) : bnd (some (.int .i64 (i : Nat))) d = some i := by unfold bnd; simp
theorem slk_lo (hT : P.underlying T = some (.slice el)) (hk : szOf P el = some 1) (hkn : k < n) (hn : n < open_) : aSl P T (.slice (some ⟨b, 0, none⟩) n n) (some (.int .i64 (k : Nat))) none none h = some (.slice (some ⟨b, k, none⟩) (n - k) (n - k)) := by
 have : aSlice P T (.slice (some ⟨b, 0, none⟩) n n) (some (.int .i64 (k : Nat))) none none h = some (.slice (some ⟨b, k, none⟩) (n - k) (n - k)) := by
  unfold aSlice
  rw [if_pos (show mxOk none none = true from rfl)]
  simp only [hT, hk]
  rw [if_neg (by omega)]
  have e1 : bnd none n = some n := rfl
  simp only [e1, bnd_nat']
  rw [if_pos ⟨by omega, by omega, by omega, hn⟩, if_neg (by omega)]
  simp
 unfold aSl; rw [this]
theorem slk_hi (hT : P.underlying T = some (.slice el)) (hk : szOf P el = some 1) (hkn : k ≤ n) (h0 : 0 < n) (hn : n < open_) : aSl P T (.slice (some ⟨b, 0, none⟩) n n) none (some (.int .i64 (k : Nat))) none h = some (.slice (some ⟨b, 0, none⟩) k n) := by
 have : aSlice P T (.slice (some ⟨b, 0, none⟩) n n) none (some (.int .i64 (k : Nat))) none h = some (.slice (some ⟨b, 0, none⟩) k n) := by
  unfold aSlice
  rw [if_pos (show mxOk _ _ = true from rfl)]
  simp only [hT, hk]
  rw [if_neg (by omega)]
  have e1 : bnd none n = some n := rfl
  have e2 : bnd none 0 = some 0 := rfl
  simp only [e1, e2, bnd_nat']
  rw [if_pos ⟨by omega, by omega, by omega, hn⟩, if_neg (by omega)]
  simp
 unfold aSl; rw [this]
def row2 (x y : Value) (k n : Nat) : List Value := List.replicate k x ++ List.replicate (n - k) y
theorem row2_len (hk : k ≤ n) : (row2 x y k n).length = n := by unfold row2; simp; omega
theorem copy_row {o m : Nat} (hT : P.underlying T = some (.slice el)) (hz : szOf P el = some 1) {u : Value} {s : Nat} {dc : Nat} (hc : Cl h b (row2 x y k n)) (hk : k ≤ n) (hx : x.oneCell' = true) (hl : X.lenV u = some s) (hf : aFirst 1 (min s (n - o)) u h = some (List.replicate m x)) (hm : m = min s (n - o)) (ho : o ≤ k) (hon : o < n) (hs : 0 < s) (hkm : o + m ≥ k) (hdc : dc ≠ 0) :
   ∃ h', aCopy P T (.slice (some ⟨b, o, none⟩) (n - o) dc) u h = some (.int .i64 (m : Nat), h') ∧ Cl h' b (row2 x y (o + m) n) ∧ Sm (fun q => q = b) h h' ∧ h'.next = h.next := by
 obtain ⟨h2, e1, c1, s1, n1⟩ := Cl.setcs (o := o) (vs := List.replicate m x) (i := 0) hc (by rw [row2_len hk]; simp; omega) (fun v hv => by rw [(List.mem_replicate.1 hv).2]; exact hx)
 refine ⟨h2, ?_, ?_, s1, n1⟩
 · unfold aCopy
   simp only [hT, hl, hz, Option.getD_some, hf]
   rw [if_neg (by omega), if_neg (by omega), e1, hm]
 · have : row2 x y (o + m) n = (row2 x y k n).take (o + 0) ++ List.replicate m x ++ (row2 x y k n).drop (o + 0 + (List.replicate m x).length) := by
    unfold row2
    rw [Nat.add_zero, List.length_replicate, List.take_append_of_le_length (by simp; omega), List.take_replicate, Nat.min_eq_left ho, List.drop_append, List.length_replicate, List.drop_replicate, List.drop_replicate, show k - (o + m) = 0 by omega, ← List.replicate_append_replicate]
    simp
    omega
   rw [this]; exact c1
theorem first_row (hc : Cl h b (row2 x y k n)) (hk : k ≤ n) {m c : Nat} (hm : m ≤ k) (hc0 : c ≠ 0) : aFirst 1 m (.slice (some ⟨b, 0, none⟩) k c) h = some (List.replicate m x) := by
 by_cases h0 : m = 0
 · subst h0; simp [aFirst]
 · have hcl := hc.cells (o := 0) m 0 (by rw [row2_len hk]; omega)
   have ht : ((row2 x y k n).drop (0 + 0)).take m = List.replicate m x := by
    unfold row2
    rw [List.drop_zero, List.take_append_of_le_length (by simp; omega), List.take_replicate, Nat.min_eq_left hm]
   rw [ht] at hcl
   unfold aFirst
   dsimp only
   rw [if_neg h0, if_neg (by omega), Nat.mul_one]
   exact hcl
theorem zrep_row (n : Nat) (y : Value) : zrep n [y] = row2 x y 0 n := by
 unfold row2
 rw [List.replicate_zero, List.nil_append, Nat.sub_zero]
 induction n with
 | zero => rfl
 | succ n ih => rw [List.replicate_succ, ← ih]; rfl
end
end
end Go.Arm
