/- Worlds of the program and walks of its functions. -/
import Derived.Test.YtmehemeoaplepaaZo
namespace Go.Proofs.Ytmehemeoaplepaa
noncomputable section
open Go Go.X Go.Arm Go.Mt
theorem req_ok {W : Wd} {G : Gh} {h : AH} {p no : Nat} (R : Rep W G h) (hp : p < W.n) (hm : no ∈ (W.pr p).reqs) :
  Arm.Calls Try.prog 51 [ptr (G.B .wd), nv (p : Int), nv (no : Int)] h (fun r => r.1 = .tuple ⟨[ptr (G.B (.rq p no)), nv 0]⟩ ∧ Sm Nix h r.2) := by
 refine Calls_of_W (n := 29) (fn := Try.f51) kr rfl rfl (Nat.le_of_ble_eq_true rfl) trivial ⟨.inr (by simp), rfl⟩ ?_
 have T0 : Sm Nix h h := .refl
 refine W_seq ?_
 refine W_region ?_
 refine L_g 2 kr ?_
 refine L_nil ?_
 refine W_seq ?_
 refine W_region ?_
 refine L_g 2 kr ?_
 refine L_c rfl rfl kr (at_ok (R.ext T0) hp) ?_
 rintro v173 h173 ⟨e173, t173⟩
 try dsimp only at e173
 try dsimp only at t173
 subst e173
 have T173 : Sm Nix h h173 := T0.ext t173
 have N173 := T173.nx
 have M173 := t173.nx
 refine L_g 5 kr ?_
 refine L_nil ?_
 refine W_seq ?_
 refine W_seq ?_
 refine W_region ?_
 refine L_g 2 kr ?_
 refine L_nil ?_
 refine W_cond false kr (fun e => by cases e) (fun _ => ?_)
 refine W_skip ?_
 refine W_seq ?_
 refine W_region ?_
 refine L_g 3 kr ?_
 refine L_ld _ rfl rfl kr (((R.ext T173).prL hp).ld (o := 1) kr rfl) ?_
 refine L_g 1 kr ?_
 refine L_lk _ rfl rfl kr kr (look_rq (R.ext T173) hp hm) ?_
 refine L_g 1 kr ?_
 refine L_nil ?_
 refine W_seq ?_
 refine W_seq ?_
 refine W_region ?_
 refine L_g 2 kr ?_
 refine L_nil ?_
 refine W_cond false kr (fun e => by cases e) (fun _ => ?_)
 refine W_skip ?_
 refine W_seq ?_
 refine W_region ?_
 refine L_g 3 kr ?_
 refine L_nil ?_
 refine W_ret ?_
 repeat first | with_reducible refine then_ret ?_ | with_reducible refine blk_ret ?_
 refine done_of (v := .tuple ⟨[ptr (G.B (.rq p no)), nv 0]⟩) (.inl rfl) kr ?_
 exact ⟨rfl, T173⟩
theorem look_no {W : Wd} {G : Gh} {h : AH} {p : Nat} {x : Int} {c : Bool} (R : Rep W G h) (hp : p < W.n) (hm : ∀ k, k ∈ (W.pr p).reqs → (k : Int) ≠ x) : aLookup Try.prog 78 (.map (some (G.B (.rqs p)))) (nv x) c h = some (tupOk c (.pointer none) false) := by
 have hk : ∀ l : List Nat, (∀ k, k ∈ l → (k : Int) ≠ x) → kget (l.map fun (k : Nat) => ((k : Int), ptr (G.B (.rq p k)))) x = none := by
   intro l
   induction l with
   | nil => intro _; rfl
   | cons y l ih =>
    intro hl
    rw [List.map_cons]
    unfold kget
    rw [if_neg (hl y (by simp))]
    exact ih fun k hk => hl k (List.mem_cons_of_mem _ hk)
 rcases (R.rqs hp).1.lookup (P := Try.prog) (T := 78) (kt := 3) (el := 103) (z := .pointer none) kr kNum kr x c with ⟨h1, h2⟩ | ⟨v, y, h1, h2, h3⟩
 · exact h2
 · rw [hk _ hm] at h1; cases h1
theorem req_no {W : Wd} {G : Gh} {h : AH} {p : Nat} {x : Int} (R : Rep W G h) (hp : p < W.n) (hm : ∀ k, k ∈ (W.pr p).reqs → (k : Int) ≠ x) :
  Arm.Calls Try.prog 51 [ptr (G.B .wd), nv (p : Int), nv x] h (fun r => r.1 = .tuple ⟨[.pointer none, nv 4]⟩ ∧ Sm Nix h r.2) := by
 refine Calls_of_W (n := 29) (fn := Try.f51) kr rfl rfl (Nat.le_of_ble_eq_true rfl) trivial ⟨.inr (by simp), rfl⟩ ?_
 have T0 : Sm Nix h h := .refl
 refine W_seq ?_
 refine W_region ?_
 refine L_g 2 kr ?_
 refine L_nil ?_
 refine W_seq ?_
 refine W_region ?_
 refine L_g 2 kr ?_
 refine L_c rfl rfl kr (at_ok (R.ext T0) hp) ?_
 rintro v174 h174 ⟨e174, t174⟩
 try dsimp only at e174
 try dsimp only at t174
 subst e174
 have T174 : Sm Nix h h174 := T0.ext t174
 have N174 := T174.nx
 have M174 := t174.nx
 refine L_g 5 kr ?_
 refine L_nil ?_
 refine W_seq ?_
 refine W_seq ?_
 refine W_region ?_
 refine L_g 2 kr ?_
 refine L_nil ?_
 refine W_cond false kr (fun e => by cases e) (fun _ => ?_)
 refine W_skip ?_
 refine W_seq ?_
 refine W_region ?_
 refine L_g 3 kr ?_
 refine L_ld _ rfl rfl kr (((R.ext T174).prL hp).ld (o := 1) kr rfl) ?_
 refine L_g 1 kr ?_
 refine L_lk _ rfl rfl kr kr (look_no (R.ext T174) hp hm) ?_
 refine L_g 1 kr ?_
 refine L_nil ?_
 refine W_seq ?_
 refine W_seq ?_
 refine W_region ?_
 refine L_g 2 kr ?_
 refine L_nil ?_
 refine W_cond true kr (fun _ => ?_) (fun e => by cases e)
 refine W_seq ?_
 refine W_region ?_
 refine L_g 2 kr ?_
 refine L_nil ?_
 refine W_ret ?_
 repeat first | with_reducible refine then_ret ?_ | with_reducible refine blk_ret ?_
 refine done_of (v := .tuple ⟨[.pointer none, nv 4]⟩) (.inl rfl) kr ?_
 exact ⟨rfl, T174⟩
theorem idle_ok {W : Wd} {G : Gh} {h : AH} {p no : Nat} (R : Rep W G h) (hp : p < W.n) (hm : no ∈ (W.pr p).reqs) (h1 : (W.rq p no).pers = true) (h2 : (W.rq p no).act = false) :
  Arm.Calls Try.prog 44 [ptr (G.B .wd), nv (p : Int), nv (no : Int)] h (fun r => r.1 = .tuple ⟨[ptr (G.B (.rq p no)), nv 0]⟩ ∧ Sm Nix h r.2) := by
 have hr := (R.rel.pr p hp).rqp no hm
 obtain ⟨dv0, hd0, c0⟩ := R.rqL hp hr
 replace c0 : Arm.Cl h (G.B (.rq p no)) [nk (W.rq p no).no, nv (W.rq p no).peer, nv (W.rq p no).ctx, nv (W.rq p no).tag, nv (W.rq p no).room, .bool (W.rq p no).send, .bool (W.rq p no).sync, .bool (W.rq p no).pers, .bool (W.rq p no).act, .bool (W.rq p no).done, nk (W.rq p no).parts, nk (W.rq p no).size, dv0, G.S (.pcs p no), nk (W.rq p no).gone, G.S (.snt p no), .bool (W.rq p no).clr, nv (W.rq p no).st.src, nv (W.rq p no).st.tag, nv (W.rq p no).st.size, nv (W.rq p no).st.err] := c0
 refine Calls_of_W (n := 33) (fn := Try.f44) kr rfl rfl (Nat.le_of_ble_eq_true rfl) trivial ⟨.inr (by simp), rfl⟩ ?_
 have T0 : Sm Nix h h := .refl
 refine W_seq ?_
 refine W_region ?_
 refine L_g 2 kr ?_
 refine L_nil ?_
 refine W_seq ?_
 refine W_region ?_
 refine L_g 3 kr ?_
 refine L_c rfl rfl kr (req_ok (R.ext T0) hp hm) ?_
 rintro v175 h175 ⟨e175, t175⟩
 try dsimp only at e175
 try dsimp only at t175
 subst e175
 have T175 : Sm Nix h h175 := T0.ext t175
 have N175 := T175.nx
 have M175 := t175.nx
 refine L_g 5 kr ?_
 refine L_nil ?_
 refine W_seq ?_
 refine W_block ?_
 refine W_seq ?_
 refine W_region ?_
 refine L_g 3 kr ?_
 refine L_nil ?_
 refine W_cond false kr (fun e => by cases e) (fun _ => ?_)
 refine W_seq ?_
 refine W_region ?_
 refine L_g 3 kr ?_
 refine L_ld _ rfl rfl kr (((c0.ext T175).ld (o := 7) kr (by rw [← h1]; rfl) : aLoad Try.prog 4 ⟨G.B (.rq p no), 7, none⟩ h175 = some (.bool true))) ?_
 refine L_g 2 kr ?_
 refine L_nil ?_
 refine W_cond false kr (fun e => by cases e) (fun _ => ?_)
 refine W_seq ?_
 refine W_region ?_
 refine L_g 3 kr ?_
 refine L_ld _ rfl rfl kr (((c0.ext T175).ld (o := 8) kr (by rw [← h2]; rfl) : aLoad Try.prog 4 ⟨G.B (.rq p no), 8, none⟩ h175 = some (.bool false))) ?_
 refine L_g 1 kr ?_
 refine L_nil ?_
 refine W_cond false kr (fun e => by cases e) (fun _ => ?_)
 refine W_skip ?_
 refine W_seq ?_
 refine W_region ?_
 refine L_g 3 kr ?_
 refine L_nil ?_
 refine W_ret ?_
 repeat first | with_reducible refine then_ret ?_ | with_reducible refine blk_ret ?_
 refine done_of (v := .tuple ⟨[ptr (G.B (.rq p no)), nv 0]⟩) (.inl rfl) kr ?_
 exact ⟨rfl, T175⟩
theorem idle_act {W : Wd} {G : Gh} {h : AH} {p no : Nat} (R : Rep W G h) (hp : p < W.n) (hm : no ∈ (W.pr p).reqs) (h1 : (W.rq p no).pers = true) (h2 : (W.rq p no).act = true) :
  Arm.Calls Try.prog 44 [ptr (G.B .wd), nv (p : Int), nv (no : Int)] h (fun r => r.1 = .tuple ⟨[.pointer none, nv 6]⟩ ∧ Sm Nix h r.2) := by
 have hr := (R.rel.pr p hp).rqp no hm
 obtain ⟨dv0, hd0, c0⟩ := R.rqL hp hr
 replace c0 : Arm.Cl h (G.B (.rq p no)) [nk (W.rq p no).no, nv (W.rq p no).peer, nv (W.rq p no).ctx, nv (W.rq p no).tag, nv (W.rq p no).room, .bool (W.rq p no).send, .bool (W.rq p no).sync, .bool (W.rq p no).pers, .bool (W.rq p no).act, .bool (W.rq p no).done, nk (W.rq p no).parts, nk (W.rq p no).size, dv0, G.S (.pcs p no), nk (W.rq p no).gone, G.S (.snt p no), .bool (W.rq p no).clr, nv (W.rq p no).st.src, nv (W.rq p no).st.tag, nv (W.rq p no).st.size, nv (W.rq p no).st.err] := c0
 refine Calls_of_W (n := 33) (fn := Try.f44) kr rfl rfl (Nat.le_of_ble_eq_true rfl) trivial ⟨.inr (by simp), rfl⟩ ?_
 have T0 : Sm Nix h h := .refl
 refine W_seq ?_
 refine W_region ?_
 refine L_g 2 kr ?_
 refine L_nil ?_
 refine W_seq ?_
 refine W_region ?_
 refine L_g 3 kr ?_
 refine L_c rfl rfl kr (req_ok (R.ext T0) hp hm) ?_
 rintro v176 h176 ⟨e176, t176⟩
 try dsimp only at e176
 try dsimp only at t176
 subst e176
 have T176 : Sm Nix h h176 := T0.ext t176
 have N176 := T176.nx
 have M176 := t176.nx
 refine L_g 5 kr ?_
 refine L_nil ?_
 refine W_seq ?_
 refine W_block ?_
 refine W_seq ?_
 refine W_region ?_
 refine L_g 3 kr ?_
 refine L_nil ?_
 refine W_cond false kr (fun e => by cases e) (fun _ => ?_)
 refine W_seq ?_
 refine W_region ?_
 refine L_g 3 kr ?_
 refine L_ld _ rfl rfl kr (((c0.ext T176).ld (o := 7) kr (by rw [← h1]; rfl) : aLoad Try.prog 4 ⟨G.B (.rq p no), 7, none⟩ h176 = some (.bool true))) ?_
 refine L_g 2 kr ?_
 refine L_nil ?_
 refine W_cond false kr (fun e => by cases e) (fun _ => ?_)
 refine W_seq ?_
 refine W_region ?_
 refine L_g 3 kr ?_
 refine L_ld _ rfl rfl kr (((c0.ext T176).ld (o := 8) kr (by rw [← h2]; rfl) : aLoad Try.prog 4 ⟨G.B (.rq p no), 8, none⟩ h176 = some (.bool true))) ?_
 refine L_g 1 kr ?_
 refine L_nil ?_
 refine W_cond true kr (fun _ => ?_) (fun e => by cases e)
 refine W_seq ?_
 refine W_region ?_
 refine L_g 2 kr ?_
 refine L_nil ?_
 refine W_ret ?_
 repeat first | with_reducible refine then_ret ?_ | with_reducible refine blk_ret ?_
 refine done_of (v := .tuple ⟨[.pointer none, nv 6]⟩) (.inl rfl) kr ?_
 exact ⟨rfl, T176⟩
theorem idle_none {W : Wd} {G : Gh} {h : AH} {p : Nat} {x : Int} (R : Rep W G h) (hp : p < W.n) (hm : ∀ k, k ∈ (W.pr p).reqs → (k : Int) ≠ x) :
  Arm.Calls Try.prog 44 [ptr (G.B .wd), nv (p : Int), nv x] h (fun r => r.1 = .tuple ⟨[.pointer none, nv 4]⟩ ∧ Sm Nix h r.2) := by
 refine Calls_of_W (n := 33) (fn := Try.f44) kr rfl rfl (Nat.le_of_ble_eq_true rfl) trivial ⟨.inr (by simp), rfl⟩ ?_
 have T0 : Sm Nix h h := .refl
 refine W_seq ?_
 refine W_region ?_
 refine L_g 2 kr ?_
 refine L_nil ?_
 refine W_seq ?_
 refine W_region ?_
 refine L_g 3 kr ?_
 refine L_c rfl rfl kr (req_no (R.ext T0) hp hm) ?_
 rintro v178 h178 ⟨e178, t178⟩
 try dsimp only at e178
 try dsimp only at t178
 subst e178
 have T178 : Sm Nix h h178 := T0.ext t178
 have N178 := T178.nx
 have M178 := t178.nx
 refine L_g 5 kr ?_
 refine L_nil ?_
 refine W_seq ?_
 refine W_block ?_
 refine W_seq ?_
 refine W_region ?_
 refine L_g 3 kr ?_
 refine L_nil ?_
 refine W_cond true kr (fun _ => ?_) (fun e => by cases e)
 refine W_seq ?_
 refine W_region ?_
 refine L_g 3 kr ?_
 refine L_nil ?_
 refine W_ret ?_
 repeat first | with_reducible refine then_ret ?_ | with_reducible refine blk_ret ?_
 refine done_of (v := .tuple ⟨[.pointer none, nv 4]⟩) (.inl rfl) kr ?_
 exact ⟨rfl, T178⟩
theorem begun_ok {W : Wd} {G : Gh} {h : AH} {p no : Nat} (R : Rep W G h) (hp : p < W.n) (hm : no ∈ (W.pr p).reqs) (h2 : (W.rq p no).act = true) :
  Arm.Calls Try.prog 35 [ptr (G.B .wd), nv (p : Int), nv (no : Int)] h (fun r => r.1 = .tuple ⟨[ptr (G.B (.rq p no)), nv 0]⟩ ∧ Sm Nix h r.2) := by
 have hr := (R.rel.pr p hp).rqp no hm
 obtain ⟨dv0, hd0, c0⟩ := R.rqL hp hr
 replace c0 : Arm.Cl h (G.B (.rq p no)) [nk (W.rq p no).no, nv (W.rq p no).peer, nv (W.rq p no).ctx, nv (W.rq p no).tag, nv (W.rq p no).room, .bool (W.rq p no).send, .bool (W.rq p no).sync, .bool (W.rq p no).pers, .bool (W.rq p no).act, .bool (W.rq p no).done, nk (W.rq p no).parts, nk (W.rq p no).size, dv0, G.S (.pcs p no), nk (W.rq p no).gone, G.S (.snt p no), .bool (W.rq p no).clr, nv (W.rq p no).st.src, nv (W.rq p no).st.tag, nv (W.rq p no).st.size, nv (W.rq p no).st.err] := c0
 refine Calls_of_W (n := 28) (fn := Try.f35) kr rfl rfl (Nat.le_of_ble_eq_true rfl) trivial ⟨.inr (by simp), rfl⟩ ?_
 have T0 : Sm Nix h h := .refl
 refine W_seq ?_
 refine W_region ?_
 refine L_g 2 kr ?_
 refine L_nil ?_
 refine W_seq ?_
 refine W_region ?_
 refine L_g 3 kr ?_
 refine L_c rfl rfl kr (req_ok (R.ext T0) hp hm) ?_
 rintro v179 h179 ⟨e179, t179⟩
 try dsimp only at e179
 try dsimp only at t179
 subst e179
 have T179 : Sm Nix h h179 := T0.ext t179
 have N179 := T179.nx
 have M179 := t179.nx
 refine L_g 5 kr ?_
 refine L_nil ?_
 refine W_seq ?_
 refine W_block ?_
 refine W_seq ?_
 refine W_region ?_
 refine L_g 3 kr ?_
 refine L_nil ?_
 refine W_cond false kr (fun e => by cases e) (fun _ => ?_)
 refine W_seq ?_
 refine W_region ?_
 refine L_g 3 kr ?_
 refine L_ld _ rfl rfl kr (((c0.ext T179).ld (o := 8) kr (by rw [← h2]; rfl) : aLoad Try.prog 4 ⟨G.B (.rq p no), 8, none⟩ h179 = some (.bool true))) ?_
 refine L_g 2 kr ?_
 refine L_nil ?_
 refine W_cond false kr (fun e => by cases e) (fun _ => ?_)
 refine W_skip ?_
 refine W_seq ?_
 refine W_region ?_
 refine L_g 3 kr ?_
 refine L_nil ?_
 refine W_ret ?_
 repeat first | with_reducible refine then_ret ?_ | with_reducible refine blk_ret ?_
 refine done_of (v := .tuple ⟨[ptr (G.B (.rq p no)), nv 0]⟩) (.inl rfl) kr ?_
 exact ⟨rfl, T179⟩
theorem begun_not {W : Wd} {G : Gh} {h : AH} {p no : Nat} (R : Rep W G h) (hp : p < W.n) (hm : no ∈ (W.pr p).reqs) (h2 : (W.rq p no).act = false) :
  Arm.Calls Try.prog 35 [ptr (G.B .wd), nv (p : Int), nv (no : Int)] h (fun r => r.1 = .tuple ⟨[.pointer none, nv 6]⟩ ∧ Sm Nix h r.2) := by
 have hr := (R.rel.pr p hp).rqp no hm
 obtain ⟨dv0, hd0, c0⟩ := R.rqL hp hr
 replace c0 : Arm.Cl h (G.B (.rq p no)) [nk (W.rq p no).no, nv (W.rq p no).peer, nv (W.rq p no).ctx, nv (W.rq p no).tag, nv (W.rq p no).room, .bool (W.rq p no).send, .bool (W.rq p no).sync, .bool (W.rq p no).pers, .bool (W.rq p no).act, .bool (W.rq p no).done, nk (W.rq p no).parts, nk (W.rq p no).size, dv0, G.S (.pcs p no), nk (W.rq p no).gone, G.S (.snt p no), .bool (W.rq p no).clr, nv (W.rq p no).st.src, nv (W.rq p no).st.tag, nv (W.rq p no).st.size, nv (W.rq p no).st.err] := c0
 refine Calls_of_W (n := 28) (fn := Try.f35) kr rfl rfl (Nat.le_of_ble_eq_true rfl) trivial ⟨.inr (by simp), rfl⟩ ?_
 have T0 : Sm Nix h h := .refl
 refine W_seq ?_
 refine W_region ?_
 refine L_g 2 kr ?_
 refine L_nil ?_
 refine W_seq ?_
 refine W_region ?_
 refine L_g 3 kr ?_
 refine L_c rfl rfl kr (req_ok (R.ext T0) hp hm) ?_
 rintro v180 h180 ⟨e180, t180⟩
 try dsimp only at e180
 try dsimp only at t180
 subst e180
 have T180 : Sm Nix h h180 := T0.ext t180
 have N180 := T180.nx
 have M180 := t180.nx
 refine L_g 5 kr ?_
 refine L_nil ?_
 refine W_seq ?_
 refine W_block ?_
 refine W_seq ?_
 refine W_region ?_
 refine L_g 3 kr ?_
 refine L_nil ?_
 refine W_cond false kr (fun e => by cases e) (fun _ => ?_)
 refine W_seq ?_
 refine W_region ?_
 refine L_g 3 kr ?_
 refine L_ld _ rfl rfl kr (((c0.ext T180).ld (o := 8) kr (by rw [← h2]; rfl) : aLoad Try.prog 4 ⟨G.B (.rq p no), 8, none⟩ h180 = some (.bool false))) ?_
 refine L_g 2 kr ?_
 refine L_nil ?_
 refine W_cond true kr (fun _ => ?_) (fun e => by cases e)
 refine W_seq ?_
 refine W_region ?_
 refine L_g 2 kr ?_
 refine L_nil ?_
 refine W_ret ?_
 repeat first | with_reducible refine then_ret ?_ | with_reducible refine blk_ret ?_
 refine done_of (v := .tuple ⟨[.pointer none, nv 6]⟩) (.inl rfl) kr ?_
 exact ⟨rfl, T180⟩
theorem chan_ok {W : Wd} {G : Gh} {h : AH} {p q : Nat} (R : Rep W G h) (hp : p < W.n) (hq : q < W.n) :
  Arm.Calls Try.prog 33 [ptr (G.B .wd), nv (p : Int), nv (q : Int)] h (fun r => r.1 = nv 0 ∧ Sm Nix h r.2) := by
 refine Calls_of_W (n := 27) (fn := Try.f33) kr rfl rfl (Nat.le_of_ble_eq_true rfl) trivial ⟨.inr (by simp), rfl⟩ ?_
 have T0 : Sm Nix h h := .refl
 refine W_seq ?_
 refine W_region ?_
 refine L_g 1 kr ?_
 refine L_nil ?_
 refine W_seq ?_
 refine W_seq ?_
 refine W_region ?_
 refine L_g 2 kr ?_
 refine L_c rfl rfl kr (at_ok (R.ext T0) hp) ?_
 rintro v182 h182 ⟨e182, t182⟩
 try dsimp only at e182
 try dsimp only at t182
 subst e182
 have T182 : Sm Nix h h182 := T0.ext t182
 have N182 := T182.nx
 have M182 := t182.nx
 refine L_g 5 kr ?_
 refine L_nil ?_
 refine W_seq ?_
 refine W_region ?_
 refine L_g 2 kr ?_
 refine L_nil ?_
 refine W_cond false kr (fun e => by cases e) (fun _ => ?_)
 refine W_skip ?_
 refine W_seq ?_
 refine W_region ?_
 refine L_g 2 kr ?_
 refine L_c rfl rfl kr (at_ok (R.ext T182) hq) ?_
 rintro v183 h183 ⟨e183, t183⟩
 try dsimp only at e183
 try dsimp only at t183
 subst e183
 have T183 : Sm Nix h h183 := T182.ext t183
 have N183 := T183.nx
 have M183 := t183.nx
 refine L_g 5 kr ?_
 refine L_nil ?_
 refine W_seq ?_
 refine W_region ?_
 refine L_g 2 kr ?_
 refine L_nil ?_
 refine W_ret ?_
 repeat first | with_reducible refine then_ret ?_ | with_reducible refine blk_ret ?_
 refine done_of (v := nv 0) (.inl rfl) kr ?_
 exact ⟨rfl, T183⟩
theorem prog_ok {W : Wd} {G : Gh} {h : AH} {p : Nat} {W' : Wd} (R : Rep W G h) (hp : p < W.n) (he : W.call p = some W') :
  Arm.Calls Try.prog 34 [ptr (G.B .wd), nv (p : Int)] h (fun r => r.1 = .tuple ⟨[nv ((W.pr p).inb.length : Int), nv 0]⟩ ∧ Nxt W' G h r.2) := by
 refine Calls_of_W (n := 20) (fn := Try.f34) kr rfl rfl (Nat.le_of_ble_eq_true rfl) trivial ⟨.inr (by simp), rfl⟩ ?_
 have T0 : Sm Nix h h := .refl
 refine W_seq ?_
 refine W_region ?_
 refine L_g 2 kr ?_
 refine L_nil ?_
 refine W_seq ?_
 refine W_seq ?_
 refine W_region ?_
 refine L_g 2 kr ?_
 refine L_c rfl rfl kr (at_ok (R.ext T0) hp) ?_
 rintro v184 h184 ⟨e184, t184⟩
 try dsimp only at e184
 try dsimp only at t184
 subst e184
 have T184 : Sm Nix h h184 := T0.ext t184
 have N184 := T184.nx
 have M184 := t184.nx
 refine L_g 5 kr ?_
 refine L_nil ?_
 refine W_seq ?_
 refine W_region ?_
 refine L_g 2 kr ?_
 refine L_nil ?_
 refine W_cond false kr (fun e => by cases e) (fun _ => ?_)
 refine W_skip ?_
 refine W_seq ?_
 refine W_region ?_
 refine L_g 2 kr ?_
 refine L_c rfl rfl kr (call_ok (R.ext T184) hp he) ?_
 rintro v185 h185 ⟨e185, N185⟩
 dsimp only at e185 N185
 subst e185
 obtain ⟨S185, C185, ro185, R185, Y185⟩ := N185
 have X185 := ((Gx.refl).trans (Gx.of T184)).trans Y185
 have T185 : Sm (Ow h (⟨Gh.B G, S185, C185, ro185⟩ : Gh)) h185 h185 := .refl
 refine L_g 2 kr ?_
 refine L_nil ?_
 refine W_ret ?_
 repeat first | with_reducible refine then_ret ?_ | with_reducible refine blk_ret ?_
 refine done_of (v := .tuple ⟨[nv ((W.pr p).inb.length : Int), nv 0]⟩) (.inl rfl) kr ?_
 exact ⟨rfl, _, _, _, (R185.ow T185), ((X185).ow T185)⟩
end
end Go.Proofs.Ytmehemeoaplepaa
namespace Go.Proofs.Ytmehemeoaplepaa
noncomputable section
open Go Go.X Go.Arm Go.Mt
theorem kdel_reqs {f : Nat → Value} {l : List Nat} {k : Nat} : kdel (l.map fun (x : Nat) => ((x : Int), f x)) (k : Int) = (l.erase k).map fun (x : Nat) => ((x : Int), f x) := by
 induction l with
 | nil => rfl
 | cons x l ih =>
  rw [List.map_cons]
  unfold kdel
  rw [List.erase_cons]
  by_cases e : x = k
  · subst e; rw [if_pos rfl]; simp
  · rw [if_neg (show ¬ ((x : Int) = (k : Int)) by omega), if_neg (by simpa using e), List.map_cons, ih]
theorem over_ok {W : Wd} {G : Gh} {h : AH} {p no : Nat} (R : Rep W G h) (hp : p < W.n) (hr : G.C (.rq p no) ≠ .no) :
   Arm.Calls Try.prog 37 [ptr (G.B .wd), nv (p : Int), ptr (G.B (.rq p no))] h (fun r => Nxt (W.over p no) G h r.2) := by
 by_cases h1 : (W.rq p no).pers = true
 · have e : W.over p no = W.setRq p no { W.rq p no with act := false } := if_pos h1
   rw [e]
   refine Calls_of_W (n := 28) (fn := Try.f37) kr rfl rfl (Nat.le_of_ble_eq_true rfl) trivial ⟨.inr (by simp), rfl⟩ ?_
   have T0 : Sm Nix h h := .refl
   refine W_seq ?_
   refine W_region ?_
   refine L_g 3 kr ?_
   obtain ⟨dv9, hd9, c9⟩ := (R.ext T0).rqL hp hr
   replace c9 : Cl h (Gh.B G (.rq p no)) [nk (W.rq p no).no, nv (W.rq p no).peer, nv (W.rq p no).ctx, nv (W.rq p no).tag, nv (W.rq p no).room, .bool (W.rq p no).send, .bool (W.rq p no).sync, .bool (W.rq p no).pers, .bool (W.rq p no).act, .bool (W.rq p no).done, nk (W.rq p no).parts, nk (W.rq p no).size, dv9, G.S (.pcs p no), nk (W.rq p no).gone, G.S (.snt p no), .bool (W.rq p no).clr, nv (W.rq p no).st.src, nv (W.rq p no).st.tag, nv (W.rq p no).st.size, nv (W.rq p no).st.err] := c9
   obtain ⟨h186, e186, d186, t186, n186⟩ := c9.store (P := Try.prog) (T := 4) (o := 8) (v := .bool false) kr rfl rfl (by simp)
   have N186 : Nxt (W.setRq p no { (W.rq p no) with act := false }) G h h186 := (R.ext T0).stRq hp hr (r := { (W.rq p no) with act := false }) hd9 d186 t186 rfl rfl rfl
   clear hd9
   refine L_st _ rfl rfl rfl kr kr (e186) ?_
   obtain ⟨S186, C186, ro186, R186, Y186⟩ := N186
   have X186 := ((Gx.refl).trans (Gx.of T0)).trans Y186
   have hr_186 := (Y186.keep _ hr).1
   have T186 : Sm (Ow h (⟨Gh.B G, S186, C186, ro186⟩ : Gh)) h186 h186 := .refl
   obtain ⟨dvz, hdz, cz⟩ := R186.rqL (p := p) hp hr_186
   rw [Wd.setRq_at] at hdz cz
   replace cz : Arm.Cl h186 (G.B (.rq p no)) [nk (W.rq p no).no, nv (W.rq p no).peer, nv (W.rq p no).ctx, nv (W.rq p no).tag, nv (W.rq p no).room, .bool (W.rq p no).send, .bool (W.rq p no).sync, .bool (W.rq p no).pers, .bool false, .bool (W.rq p no).done, nk (W.rq p no).parts, nk (W.rq p no).size, dvz, (⟨G.B, S186, C186, ro186⟩ : Gh).S (.pcs p no), nk (W.rq p no).gone, (⟨G.B, S186, C186, ro186⟩ : Gh).S (.snt p no), .bool (W.rq p no).clr, nv (W.rq p no).st.src, nv (W.rq p no).st.tag, nv (W.rq p no).st.size, nv (W.rq p no).st.err] := cz
   refine L_nil ?_
   refine W_seq ?_
   refine W_region ?_
   refine L_g 3 kr ?_
   refine L_ld _ rfl rfl kr (((cz.sm T186 (fun hx => hx.2.1 ⟨.rq p no, hr_186, rfl⟩)).ld (o := 7) kr (by rw [← h1]; rfl) : aLoad Try.prog 4 ⟨G.B (.rq p no), 7, none⟩ h186 = some (.bool true))) ?_
   refine L_g 1 kr ?_
   refine L_nil ?_
   refine W_cond false kr (fun e => by cases e) (fun _ => ?_)
   refine W_skip ?_
   repeat with_reducible refine blk_norm ?_
   refine done_of (v := .tuple ⟨[]⟩) (.inr rfl) kr ?_
   exact ⟨_, _, _, (R186.ow T186), ((X186).ow T186)⟩
 · have e : W.over p no = (W.setRq p no { W.rq p no with act := false }).setPr p { W.pr p with reqs := (W.pr p).reqs.erase (W.rq p no).no } := if_neg h1
   rw [e]
   have h1 : (W.rq p no).pers = false := by simpa using h1
   refine Calls_of_W (n := 28) (fn := Try.f37) kr rfl rfl (Nat.le_of_ble_eq_true rfl) trivial ⟨.inr (by simp), rfl⟩ ?_
   have T0 : Sm Nix h h := .refl
   refine W_seq ?_
   refine W_region ?_
   refine L_g 3 kr ?_
   obtain ⟨dv9, hd9, c9⟩ := (R.ext T0).rqL hp hr
   replace c9 : Cl h (Gh.B G (.rq p no)) [nk (W.rq p no).no, nv (W.rq p no).peer, nv (W.rq p no).ctx, nv (W.rq p no).tag, nv (W.rq p no).room, .bool (W.rq p no).send, .bool (W.rq p no).sync, .bool (W.rq p no).pers, .bool (W.rq p no).act, .bool (W.rq p no).done, nk (W.rq p no).parts, nk (W.rq p no).size, dv9, G.S (.pcs p no), nk (W.rq p no).gone, G.S (.snt p no), .bool (W.rq p no).clr, nv (W.rq p no).st.src, nv (W.rq p no).st.tag, nv (W.rq p no).st.size, nv (W.rq p no).st.err] := c9
   obtain ⟨h187, e187, d187, t187, n187⟩ := c9.store (P := Try.prog) (T := 4) (o := 8) (v := .bool false) kr rfl rfl (by simp)
   have N187 : Nxt (W.setRq p no { (W.rq p no) with act := false }) G h h187 := (R.ext T0).stRq hp hr (r := { (W.rq p no) with act := false }) hd9 d187 t187 rfl rfl rfl
   clear hd9
   refine L_st _ rfl rfl rfl kr kr (e187) ?_
   obtain ⟨S187, C187, ro187, R187, Y187⟩ := N187
   have X187 := ((Gx.refl).trans (Gx.of T0)).trans Y187
   have hr_187 := (Y187.keep _ hr).1
   have T187 : Sm (Ow h (⟨Gh.B G, S187, C187, ro187⟩ : Gh)) h187 h187 := .refl
   obtain ⟨dvz, hdz, cz⟩ := R187.rqL (p := p) hp hr_187
   rw [Wd.setRq_at] at hdz cz
   replace cz : Arm.Cl h187 (G.B (.rq p no)) [nk (W.rq p no).no, nv (W.rq p no).peer, nv (W.rq p no).ctx, nv (W.rq p no).tag, nv (W.rq p no).room, .bool (W.rq p no).send, .bool (W.rq p no).sync, .bool (W.rq p no).pers, .bool false, .bool (W.rq p no).done, nk (W.rq p no).parts, nk (W.rq p no).size, dvz, (⟨G.B, S187, C187, ro187⟩ : Gh).S (.pcs p no), nk (W.rq p no).gone, (⟨G.B, S187, C187, ro187⟩ : Gh).S (.snt p no), .bool (W.rq p no).clr, nv (W.rq p no).st.src, nv (W.rq p no).st.tag, nv (W.rq p no).st.size, nv (W.rq p no).st.err] := cz
   refine L_nil ?_
   refine W_seq ?_
   refine W_region ?_
   refine L_g 3 kr ?_
   refine L_ld _ rfl rfl kr (((cz.sm T187 (fun hx => hx.2.1 ⟨.rq p no, hr_187, rfl⟩)).ld (o := 7) kr (by rw [← h1]; rfl) : aLoad Try.prog 4 ⟨G.B (.rq p no), 7, none⟩ h187 = some (.bool false))) ?_
   refine L_g 1 kr ?_
   refine L_nil ?_
   refine W_cond true kr (fun _ => ?_) (fun e => by cases e)
   refine W_drawn kr ?_
   refine D_e (e := 14) (l := [0, 1, 2, 3, 4, 5, 6, 7, 8, 9, 10, 11, 12, 13]) (s' := []) kr kr rfl kr Rk_nil ?_
   refine NS_b 3 kr ?_
   refine NS_ld _ rfl rfl kr kr kr ((R187.ow T187).wdL.ld (o := 1) kr rfl) ?_
   refine NS_b 1 kr ?_
   obtain ⟨b1, o1, i1, l1⟩ := (R187.ow T187).prsAt (P := Try.prog) (T := 74) (el := 77) kr kr kr hp
   refine NS_ix _ rfl rfl kr kr kr kr (i1) ?_
   refine NS_ld _ rfl rfl kr kr kr (l1) ?_
   refine NS_b 2 kr ?_
   refine NS_ld _ rfl rfl kr kr kr (((R187.ow T187).prL hp).ld (o := 1) kr rfl) ?_
   refine NS_b 3 kr ?_
   refine NS_ld _ rfl rfl kr kr kr ((cz.sm T187 (fun hx => hx.2.1 ⟨.rq p no, hr_187, rfl⟩)).ld (o := 0) kr rfl) ?_
   refine NS_nil ?_
   have hE := (R187.ow T187).rqs (p := p) hp
   obtain ⟨h188, e188, mp188, t188, n188⟩ := hE.1.delete (P := Try.prog) (T := 78) (el := 103) kr kNum ((W.rq p no).no : Int)
   have e9 := kdel_reqs (f := fun k => ptr (Gh.B (⟨Gh.B G, S187, C187, ro187⟩ : Gh) (.rq p k))) (l := (W.pr p).reqs) (k := (W.rq p no).no)
   have mp9188 : Mp h188 (Gh.B (⟨Gh.B G, S187, C187, ro187⟩ : Gh) (.rqs p)) nv Eq (((W.pr p).reqs.erase (W.rq p no).no).map fun (k : Nat) => ((k : Int), ptr (Gh.B (⟨Gh.B G, S187, C187, ro187⟩ : Gh) (.rq p k)))) := e9 ▸ mp188
   have N188 : Nxt ((W.setRq p no { W.rq p no with act := false }).setPr p { W.pr p with reqs := (W.pr p).reqs.erase (W.rq p no).no }) (⟨Gh.B G, S187, C187, ro187⟩ : Gh) h187 h188 := (R187.ow T187).setRqs (p := p) hp (fun k hk => ((R187.ow T187).rel.pr p hp).rqp k (List.mem_of_mem_erase hk)) mp9188 (hE.2.delete e188) t188
   refine L_bi _ _ rfl rfl kr kr (bi_delete e188) ?_
   obtain ⟨S188, C188, ro188, R188, Y188⟩ := N188
   have X188 := ((X187).ow T187).trans Y188
   have hr_188 := (Y188.keep _ hr_187).1
   have T188 : Sm (Ow h (⟨Gh.B (⟨Gh.B G, S187, C187, ro187⟩ : Gh), S188, C188, ro188⟩ : Gh)) h188 h188 := .refl
   refine L_nil ⟨rfl, ?_⟩
   refine D_l (l := []) kr kr Rk_nil ?_
   refine NS_nil ?_
   repeat with_reducible refine blk_norm ?_
   refine done_of (v := .tuple ⟨[]⟩) (.inr rfl) kr ?_
   exact ⟨_, _, _, (R188.ow T188), ((X188).ow T188)⟩
end
end Go.Proofs.Ytmehemeoaplepaa
namespace Go.Proofs.Ytmehemeoaplepaa
noncomputable section
open Go Go.X Go.Arm Go.Mt
theorem check_qt {W : Wd} {G : Gh} {h : AH} {p : Nat} {q : Nat} {ctx : Int} {tag : Int} {wild : Bool} (R : Rep W G h) (hp : p < W.n) (hq : q < W.n) (hc0 : 0 ≤ ctx) (hc1 : ctx ≤ 1048576) (ht0 : 0 ≤ tag) (ht1 : tag ≤ 1048576) :
  Arm.Calls Try.prog 30 [ptr (G.B .wd), nv (p : Int), nv (q : Int), nv ctx, nv tag, .bool wild] h (fun r => r.1 = nv 0 ∧ Sm Nix h r.2) := by
 refine Calls_of_W (n := 69) (fn := Try.f30) kr rfl rfl (Nat.le_of_ble_eq_true rfl) trivial ⟨.inr (by simp), rfl⟩ ?_
 have T0 : Sm Nix h h := .refl
 refine W_seq ?_
 refine W_region ?_
 refine L_g 1 kr ?_
 refine L_nil ?_
 refine W_seq ?_
 refine W_seq ?_
 refine W_region ?_
 refine L_g 2 kr ?_
 refine L_c rfl rfl kr (at_ok (R.ext T0) hp) ?_
 rintro v205 h205 ⟨e205, t205⟩
 try dsimp only at e205
 try dsimp only at t205
 subst e205
 have T205 : Sm Nix h h205 := T0.ext t205
 have N205 := T205.nx
 have M205 := t205.nx
 refine L_g 5 kr ?_
 refine L_nil ?_
 refine W_seq ?_
 refine W_region ?_
 refine L_g 2 kr ?_
 refine L_nil ?_
 refine W_cond false kr (fun e => by cases e) (fun _ => ?_)
 refine W_skip ?_
 refine W_seq ?_
 refine W_seq ?_
 refine W_region ?_
 refine L_g 2 kr ?_
 refine L_c rfl rfl kr (at_ok (R.ext T205) hq) ?_
 rintro v206 h206 ⟨e206, t206⟩
 try dsimp only at e206
 try dsimp only at t206
 subst e206
 have T206 : Sm Nix h h206 := T205.ext t206
 have N206 := T206.nx
 have M206 := t206.nx
 refine L_g 5 kr ?_
 refine L_nil ?_
 refine W_seq ?_
 refine W_region ?_
 refine L_g 14 kr ?_
 refine L_nil ?_
 refine W_cond false kr (fun e => by cases e) (fun _ => ?_)
 refine W_skip ?_
 refine W_seq ?_
 refine W_block ?_
 refine W_seq ?_
 refine W_region ?_
 refine L_g 1 kr ?_
 refine L_i (ctx) (0) (.bool false) rfl rfl kr kr rfl (by first | (simp; done) | (simp; omega)) ?_
 refine L_g 2 kr ?_
 refine L_want kr ?_
 refine L_i (ctx) (1048576) (.bool false) rfl rfl kr kr rfl (by first | (simp; done) | (simp; omega)) ?_
 refine L_g 2 kr ?_
 refine L_nil ?_
 refine W_cond false kr (fun e => by cases e) (fun _ => ?_)
 refine W_seq ?_
 refine W_region ?_
 refine L_g 1 kr ?_
 refine L_i (tag) (0) (.bool false) rfl rfl kr kr rfl (by first | (simp; done) | (simp; omega)) ?_
 refine L_g 2 kr ?_
 refine L_want kr ?_
 refine L_i (tag) (1048576) (.bool false) rfl rfl kr kr rfl (by first | (simp; done) | (simp; omega)) ?_
 refine L_g 10 kr ?_
 refine L_nil ?_
 refine W_cond false kr (fun e => by cases e) (fun _ => ?_)
 refine W_skip ?_
 refine W_seq ?_
 refine W_region ?_
 refine L_g 1 kr ?_
 refine L_nil ?_
 refine W_ret ?_
 repeat first | with_reducible refine then_ret ?_ | with_reducible refine blk_ret ?_
 refine done_of (v := nv 0) (.inl rfl) kr ?_
 exact ⟨rfl, T206⟩
theorem check_qa {W : Wd} {G : Gh} {h : AH} {p : Nat} {q : Nat} {ctx : Int} (R : Rep W G h) (hp : p < W.n) (hq : q < W.n) (hc0 : 0 ≤ ctx) (hc1 : ctx ≤ 1048576) :
  Arm.Calls Try.prog 30 [ptr (G.B .wd), nv (p : Int), nv (q : Int), nv ctx, nv (-1), .bool true] h (fun r => r.1 = nv 0 ∧ Sm Nix h r.2) := by
 refine Calls_of_W (n := 69) (fn := Try.f30) kr rfl rfl (Nat.le_of_ble_eq_true rfl) trivial ⟨.inr (by simp), rfl⟩ ?_
 have T0 : Sm Nix h h := .refl
 refine W_seq ?_
 refine W_region ?_
 refine L_g 1 kr ?_
 refine L_nil ?_
 refine W_seq ?_
 refine W_seq ?_
 refine W_region ?_
 refine L_g 2 kr ?_
 refine L_c rfl rfl kr (at_ok (R.ext T0) hp) ?_
 rintro v207 h207 ⟨e207, t207⟩
 try dsimp only at e207
 try dsimp only at t207
 subst e207
 have T207 : Sm Nix h h207 := T0.ext t207
 have N207 := T207.nx
 have M207 := t207.nx
 refine L_g 5 kr ?_
 refine L_nil ?_
 refine W_seq ?_
 refine W_region ?_
 refine L_g 2 kr ?_
 refine L_nil ?_
 refine W_cond false kr (fun e => by cases e) (fun _ => ?_)
 refine W_skip ?_
 refine W_seq ?_
 refine W_seq ?_
 refine W_region ?_
 refine L_g 2 kr ?_
 refine L_c rfl rfl kr (at_ok (R.ext T207) hq) ?_
 rintro v208 h208 ⟨e208, t208⟩
 try dsimp only at e208
 try dsimp only at t208
 subst e208
 have T208 : Sm Nix h h208 := T207.ext t208
 have N208 := T208.nx
 have M208 := t208.nx
 refine L_g 5 kr ?_
 refine L_nil ?_
 refine W_seq ?_
 refine W_region ?_
 refine L_g 14 kr ?_
 refine L_nil ?_
 refine W_cond false kr (fun e => by cases e) (fun _ => ?_)
 refine W_skip ?_
 refine W_seq ?_
 refine W_block ?_
 refine W_seq ?_
 refine W_region ?_
 refine L_g 1 kr ?_
 refine L_i (ctx) (0) (.bool false) rfl rfl kr kr rfl (by first | (simp; done) | (simp; omega)) ?_
 refine L_g 2 kr ?_
 refine L_want kr ?_
 refine L_i (ctx) (1048576) (.bool false) rfl rfl kr kr rfl (by first | (simp; done) | (simp; omega)) ?_
 refine L_g 2 kr ?_
 refine L_nil ?_
 refine W_cond false kr (fun e => by cases e) (fun _ => ?_)
 refine W_seq ?_
 refine W_region ?_
 refine L_g 15 kr ?_
 refine L_nil ?_
 refine W_cond false kr (fun e => by cases e) (fun _ => ?_)
 refine W_skip ?_
 refine W_seq ?_
 refine W_region ?_
 refine L_g 1 kr ?_
 refine L_nil ?_
 refine W_ret ?_
 repeat first | with_reducible refine then_ret ?_ | with_reducible refine blk_ret ?_
 refine done_of (v := nv 0) (.inl rfl) kr ?_
 exact ⟨rfl, T208⟩
end
end Go.Proofs.Ytmehemeoaplepaa
namespace Go.Proofs.Ytmehemeoaplepaa
noncomputable section
open Go Go.X Go.Arm Go.Mt
end
end Go.Proofs.Ytmehemeoaplepaa
namespace Go.Proofs.Ytmehemeoaplepaa
noncomputable section
open Go Go.X Go.Arm Go.Mt
theorem pers_send {W : Wd} {G : Gh} {h : AH} {p q : Nat} {ctx : Int} {tag : Int} {sync : Bool} {W1 W2 : Wd} (R : Rep W G h) (hp : p < W.n) (hq : q < W.n) (hc0 : 0 ≤ ctx) (hc1 : ctx ≤ 1048576) (ht0 : 0 ≤ tag) (ht1 : tag ≤ 1048576) (hfull : (W.pr p).reqs.length < 256) (he1 : W.call p = some W1) (he2 : W1.add p { no := 0, peer := (q : Int), ctx := ctx, tag := tag, room := 0, send := true, sync := sync, pers := true, act := false, done := false, parts := 0, size := 0, data := [], pcs := [], gone := 0, sent := [], clr := false, st := St.z } = some W2) :
  Arm.Calls Try.prog 23 [ptr (G.B .wd), nv (p : Int), .bool true, nv (q : Int), nv ctx, nv tag, nv 0, .bool sync] h (fun r => r.1 = .tuple ⟨[nk (W2.rq p (W1.pr p).next).no, nv 0]⟩ ∧ (∃ b S C ro, Rep W2 ⟨ups G.B (.rq p (W1.pr p).next) b, S, C, ro⟩ r.2 ∧ Gx G h ⟨ups G.B (.rq p (W1.pr p).next) b, S, C, ro⟩ r.2)) := by
 have hp1 : p < W1.n := by rw [Wd.call_n he1]; exact hp
 have hp2 : p < W2.n := by rw [Wd.add_n he2]; exact hp1
 refine Calls_of_W (n := 71) (fn := Try.f23) kr rfl rfl (Nat.le_of_ble_eq_true rfl) trivial ⟨.inr (by simp), rfl⟩ ?_
 have T0 : Sm Nix h h := .refl
 refine W_seq ?_
 refine W_region ?_
 refine L_g 2 kr ?_
 refine L_nil ?_
 refine W_seq ?_
 refine W_seq ?_
 refine W_region ?_
 refine L_g 7 kr ?_
 refine L_c rfl rfl kr (check_qt (wild := false) (R.ext T0) hp hq hc0 hc1 ht0 ht1) ?_
 rintro v219 h219 ⟨e219, t219⟩
 try dsimp only at e219
 try dsimp only at t219
 subst e219
 have T219 : Sm Nix h h219 := T0.ext t219
 have N219 := T219.nx
 have M219 := t219.nx
 refine L_g 1 kr ?_
 refine L_nil ?_
 refine W_seq ?_
 refine W_region ?_
 refine L_g 2 kr ?_
 refine L_nil ?_
 refine W_cond false kr (fun e => by cases e) (fun _ => ?_)
 refine W_skip ?_
 refine W_seq ?_
 refine W_seq ?_
 refine W_region ?_
 refine L_g 1 kr ?_
 refine L_c rfl rfl kr (spac_ok (x := 0) (by decide) (by decide)) ?_
 rintro v220 h220 ⟨e220, t220⟩
 try dsimp only at e220
 try dsimp only at t220
 subst e220
 have T220 : Sm Nix h h220 := T219.ext t220
 have N220 := T220.nx
 have M220 := t220.nx
 refine L_g 1 kr ?_
 refine L_nil ?_
 refine W_seq ?_
 refine W_region ?_
 refine L_g 2 kr ?_
 refine L_nil ?_
 refine W_cond false kr (fun e => by cases e) (fun _ => ?_)
 refine W_skip ?_
 refine W_seq ?_
 refine W_seq ?_
 refine W_region ?_
 refine L_g 12 kr ?_
 refine L_nil ?_
 refine W_cond false kr (fun e => by cases e) (fun _ => ?_)
 refine W_skip ?_
 refine W_seq ?_
 refine W_seq ?_
 refine W_region ?_
 refine L_g 2 kr ?_
 refine L_c rfl rfl kr (full_ok (R.ext T220) hp (b := false) (by simp; omega)) ?_
 rintro v221 h221 ⟨e221, t221⟩
 try dsimp only at e221
 try dsimp only at t221
 subst e221
 have T221 : Sm Nix h h221 := T220.ext t221
 have N221 := T221.nx
 have M221 := t221.nx
 refine L_g 1 kr ?_
 refine L_nil ?_
 refine W_seq ?_
 refine W_region ?_
 refine L_g 2 kr ?_
 refine L_nil ?_
 refine W_cond false kr (fun e => by cases e) (fun _ => ?_)
 refine W_skip ?_
 refine W_seq ?_
 refine W_region ?_
 refine L_g 2 kr ?_
 refine L_c rfl rfl kr (call_ok (R.ext T221) hp he1) ?_
 rintro v222 h222 ⟨e222, N222⟩
 dsimp only at e222 N222
 subst e222
 obtain ⟨S222, C222, ro222, R222, Y222⟩ := N222
 have X222 := ((Gx.refl).trans (Gx.of T221)).trans Y222
 have T222 : Sm (Ow h (⟨Gh.B G, S222, C222, ro222⟩ : Gh)) h222 h222 := .refl
 refine L_nil ?_
 refine W_seq ?_
 refine W_region ?_
 refine L_g 9 kr ?_
 refine L_c rfl rfl kr (add_ok (R222.ow T222) hp1 (r := { no := 0, peer := (q : Int), ctx := ctx, tag := tag, room := 0, send := true, sync := sync, pers := true, act := false, done := false, parts := 0, size := 0, data := [], pcs := [], gone := 0, sent := [], clr := false, st := St.z }) rfl rfl rfl he2) ?_
 rintro v9 h223 ⟨b9, S9, C9, ro9, R9, Y9, hr9, e9⟩
 dsimp only at R9 Y9 hr9 e9
 subst e9
 have X9 := ((X222).ow T222).trans Y9
 have eB9 : ups (Gh.B (⟨Gh.B G, S222, C222, ro222⟩ : Gh)) (.rq p (W1.pr p).next) b9 (.rq p (W1.pr p).next) = b9 := ups_at _ _ _
 have T223 : Sm (Ow h (⟨ups (Gh.B (⟨Gh.B G, S222, C222, ro222⟩ : Gh)) (.rq p (W1.pr p).next) b9, S9, C9, ro9⟩ : Gh)) h223 h223 := .refl
 obtain ⟨dvz, hdz, cz⟩ := R9.rqL (p := p) hp2 hr9
 rw [show Gh.B (⟨ups (Gh.B (⟨Gh.B G, S222, C222, ro222⟩ : Gh)) (.rq p (W1.pr p).next) b9, S9, C9, ro9⟩ : Gh) (.rq p (W1.pr p).next) = b9 from eB9] at cz
 refine L_g 2 kr ?_
 refine L_ld _ rfl rfl kr ((cz.sm T223 (fun hx => hx.2.1 ⟨.rq p (W1.pr p).next, hr9, congrArg some eB9⟩)).ld (o := 0) kr rfl) ?_
 refine L_g 2 kr ?_
 refine L_nil ?_
 refine W_ret ?_
 repeat first | with_reducible refine then_ret ?_ | with_reducible refine blk_ret ?_
 refine done_of (v := .tuple ⟨[nk (W2.rq p (W1.pr p).next).no, nv 0]⟩) (.inl rfl) kr ?_
 exact ⟨rfl, b9, _, _, _, (R9.ow T223), ((X9).ow T223)⟩
theorem pers_recv_a {W : Wd} {G : Gh} {h : AH} {p q : Nat} {ctx : Int} {room : Int} {W1 W2 : Wd} (R : Rep W G h) (hp : p < W.n) (hq : q < W.n) (hc0 : 0 ≤ ctx) (hc1 : ctx ≤ 1048576) (hr0 : 0 ≤ room) (hr1 : room ≤ 4096) (hfull : (W.pr p).reqs.length < 256) (he1 : W.call p = some W1) (he2 : W1.add p { no := 0, peer := (q : Int), ctx := ctx, tag := -1, room := room, send := false, sync := false, pers := true, act := false, done := false, parts := 0, size := 0, data := [], pcs := [], gone := 0, sent := [], clr := false, st := St.z } = some W2) :
  Arm.Calls Try.prog 23 [ptr (G.B .wd), nv (p : Int), .bool false, nv (q : Int), nv ctx, nv (-1), nv room, .bool false] h (fun r => r.1 = .tuple ⟨[nk (W2.rq p (W1.pr p).next).no, nv 0]⟩ ∧ (∃ b S C ro, Rep W2 ⟨ups G.B (.rq p (W1.pr p).next) b, S, C, ro⟩ r.2 ∧ Gx G h ⟨ups G.B (.rq p (W1.pr p).next) b, S, C, ro⟩ r.2)) := by
 have hp1 : p < W1.n := by rw [Wd.call_n he1]; exact hp
 have hp2 : p < W2.n := by rw [Wd.add_n he2]; exact hp1
 refine Calls_of_W (n := 71) (fn := Try.f23) kr rfl rfl (Nat.le_of_ble_eq_true rfl) trivial ⟨.inr (by simp), rfl⟩ ?_
 have T0 : Sm Nix h h := .refl
 refine W_seq ?_
 refine W_region ?_
 refine L_g 2 kr ?_
 refine L_nil ?_
 refine W_seq ?_
 refine W_seq ?_
 refine W_region ?_
 refine L_g 7 kr ?_
 refine L_c rfl rfl kr (check_qa (R.ext T0) hp hq hc0 hc1) ?_
 rintro v229 h229 ⟨e229, t229⟩
 try dsimp only at e229
 try dsimp only at t229
 subst e229
 have T229 : Sm Nix h h229 := T0.ext t229
 have N229 := T229.nx
 have M229 := t229.nx
 refine L_g 1 kr ?_
 refine L_nil ?_
 refine W_seq ?_
 refine W_region ?_
 refine L_g 2 kr ?_
 refine L_nil ?_
 refine W_cond false kr (fun e => by cases e) (fun _ => ?_)
 refine W_skip ?_
 refine W_seq ?_
 refine W_seq ?_
 refine W_region ?_
 refine L_g 1 kr ?_
 refine L_c rfl rfl kr (spac_ok (x := room) hr0 hr1) ?_
 rintro v230 h230 ⟨e230, t230⟩
 try dsimp only at e230
 try dsimp only at t230
 subst e230
 have T230 : Sm Nix h h230 := T229.ext t230
 have N230 := T230.nx
 have M230 := t230.nx
 refine L_g 1 kr ?_
 refine L_nil ?_
 refine W_seq ?_
 refine W_region ?_
 refine L_g 2 kr ?_
 refine L_nil ?_
 refine W_cond false kr (fun e => by cases e) (fun _ => ?_)
 refine W_skip ?_
 refine W_seq ?_
 refine W_seq ?_
 refine W_region ?_
 refine L_g 12 kr ?_
 refine L_nil ?_
 refine W_cond false kr (fun e => by cases e) (fun _ => ?_)
 refine W_skip ?_
 refine W_seq ?_
 refine W_seq ?_
 refine W_region ?_
 refine L_g 2 kr ?_
 refine L_c rfl rfl kr (full_ok (R.ext T230) hp (b := false) (by simp; omega)) ?_
 rintro v231 h231 ⟨e231, t231⟩
 try dsimp only at e231
 try dsimp only at t231
 subst e231
 have T231 : Sm Nix h h231 := T230.ext t231
 have N231 := T231.nx
 have M231 := t231.nx
 refine L_g 1 kr ?_
 refine L_nil ?_
 refine W_seq ?_
 refine W_region ?_
 refine L_g 2 kr ?_
 refine L_nil ?_
 refine W_cond false kr (fun e => by cases e) (fun _ => ?_)
 refine W_skip ?_
 refine W_seq ?_
 refine W_region ?_
 refine L_g 2 kr ?_
 refine L_c rfl rfl kr (call_ok (R.ext T231) hp he1) ?_
 rintro v232 h232 ⟨e232, N232⟩
 dsimp only at e232 N232
 subst e232
 obtain ⟨S232, C232, ro232, R232, Y232⟩ := N232
 have X232 := ((Gx.refl).trans (Gx.of T231)).trans Y232
 have T232 : Sm (Ow h (⟨Gh.B G, S232, C232, ro232⟩ : Gh)) h232 h232 := .refl
 refine L_nil ?_
 refine W_seq ?_
 refine W_region ?_
 refine L_g 9 kr ?_
 refine L_c rfl rfl kr (add_ok (R232.ow T232) hp1 (r := { no := 0, peer := (q : Int), ctx := ctx, tag := -1, room := room, send := false, sync := false, pers := true, act := false, done := false, parts := 0, size := 0, data := [], pcs := [], gone := 0, sent := [], clr := false, st := St.z }) rfl rfl rfl he2) ?_
 rintro v9 h233 ⟨b9, S9, C9, ro9, R9, Y9, hr9, e9⟩
 dsimp only at R9 Y9 hr9 e9
 subst e9
 have X9 := ((X232).ow T232).trans Y9
 have eB9 : ups (Gh.B (⟨Gh.B G, S232, C232, ro232⟩ : Gh)) (.rq p (W1.pr p).next) b9 (.rq p (W1.pr p).next) = b9 := ups_at _ _ _
 have T233 : Sm (Ow h (⟨ups (Gh.B (⟨Gh.B G, S232, C232, ro232⟩ : Gh)) (.rq p (W1.pr p).next) b9, S9, C9, ro9⟩ : Gh)) h233 h233 := .refl
 obtain ⟨dvz, hdz, cz⟩ := R9.rqL (p := p) hp2 hr9
 rw [show Gh.B (⟨ups (Gh.B (⟨Gh.B G, S232, C232, ro232⟩ : Gh)) (.rq p (W1.pr p).next) b9, S9, C9, ro9⟩ : Gh) (.rq p (W1.pr p).next) = b9 from eB9] at cz
 refine L_g 2 kr ?_
 refine L_ld _ rfl rfl kr ((cz.sm T233 (fun hx => hx.2.1 ⟨.rq p (W1.pr p).next, hr9, congrArg some eB9⟩)).ld (o := 0) kr rfl) ?_
 refine L_g 2 kr ?_
 refine L_nil ?_
 refine W_ret ?_
 repeat first | with_reducible refine then_ret ?_ | with_reducible refine blk_ret ?_
 refine done_of (v := .tuple ⟨[nk (W2.rq p (W1.pr p).next).no, nv 0]⟩) (.inl rfl) kr ?_
 exact ⟨rfl, b9, _, _, _, (R9.ow T233), ((X9).ow T233)⟩
theorem startf_send {W : Wd} {G : Gh} {h : AH} {p no : Nat} {d : By} {s : Value} {W1 W2 : Wd} (R : Rep W G h) (hp : p < W.n) (hm : no ∈ (W.pr p).reqs) (h1 : (W.rq p no).pers = true) (h2 : (W.rq p no).act = false) (hsd : (W.rq p no).send = true) (hld : d.length ≤ 4096) (H : Rb h s (d.map bv)) (hs : ∀ b, vb s = some b → ¬ G.mut b) (he1 : W.call p = some W1) (he2 : W1.start p no d = some W2) :
  Arm.Calls Try.prog 24 [ptr (G.B .wd), nv (p : Int), nv (no : Int), s] h (fun r => r.1 = nv 0 ∧ Nxt W2 G h r.2) := by
 have hp1 : p < W1.n := by rw [Wd.call_n he1]; exact hp
 have hr := (R.rel.pr p hp).rqp no hm
 obtain ⟨dv0, hd0, c0⟩ := R.rqL hp hr
 replace c0 : Arm.Cl h (G.B (.rq p no)) [nk (W.rq p no).no, nv (W.rq p no).peer, nv (W.rq p no).ctx, nv (W.rq p no).tag, nv (W.rq p no).room, .bool (W.rq p no).send, .bool (W.rq p no).sync, .bool (W.rq p no).pers, .bool (W.rq p no).act, .bool (W.rq p no).done, nk (W.rq p no).parts, nk (W.rq p no).size, dv0, G.S (.pcs p no), nk (W.rq p no).gone, G.S (.snt p no), .bool (W.rq p no).clr, nv (W.rq p no).st.src, nv (W.rq p no).st.tag, nv (W.rq p no).st.size, nv (W.rq p no).st.err] := c0
 refine Calls_of_W (n := 45) (fn := Try.f24) kr rfl rfl (Nat.le_of_ble_eq_true rfl) trivial ⟨.inr (by simp), rfl⟩ ?_
 have T0 : Sm Nix h h := .refl
 refine W_seq ?_
 refine W_region ?_
 refine L_g 1 kr ?_
 refine L_nil ?_
 refine W_seq ?_
 refine W_region ?_
 refine L_g 3 kr ?_
 refine L_c rfl rfl kr (idle_ok (R.ext T0) hp hm h1 h2) ?_
 rintro v234 h234 ⟨e234, t234⟩
 try dsimp only at e234
 try dsimp only at t234
 subst e234
 have T234 : Sm Nix h h234 := T0.ext t234
 have N234 := T234.nx
 have M234 := t234.nx
 refine L_g 5 kr ?_
 refine L_nil ?_
 refine W_seq ?_
 refine W_block ?_
 refine W_seq ?_
 refine W_region ?_
 refine L_g 3 kr ?_
 refine L_nil ?_
 refine W_cond false kr (fun e => by cases e) (fun _ => ?_)
 refine W_seq ?_
 refine W_region ?_
 refine L_g 3 kr ?_
 refine L_ld _ rfl rfl kr (((c0.ext T234).ld (o := 5) kr (by rw [← hsd]; rfl) : aLoad Try.prog 4 ⟨G.B (.rq p no), 5, none⟩ h234 = some (.bool true))) ?_
 refine L_g 7 kr ?_
 refine L_nil ?_
 refine W_cond false kr (fun e => by cases e) (fun _ => ?_)
 refine W_seq ?_
 refine W_region ?_
 refine L_g 1 kr ?_
 refine L_ln _ rfl rfl kr ((H.lenA (T := 23) (el := 5) kr _)) ?_
 refine L_i (((List.map bv d).length : Int)) (4096) (.bool false) rfl rfl kr kr rfl (by simp; omega) ?_
 refine L_g 1 kr ?_
 refine L_nil ?_
 refine W_cond false kr (fun e => by cases e) (fun _ => ?_)
 refine W_skip ?_
 refine W_seq ?_
 refine W_region ?_
 refine L_g 2 kr ?_
 refine L_c rfl rfl kr (call_ok (R.ext T234) hp he1) ?_
 rintro v235 h235 ⟨e235, N235⟩
 dsimp only at e235 N235
 subst e235
 obtain ⟨S235, C235, ro235, R235, Y235⟩ := N235
 have X235 := ((Gx.refl).trans (Gx.of T234)).trans Y235
 have hr_235 := (Y235.keep _ hr).1
 have T235 : Sm (Ow h (⟨Gh.B G, S235, C235, ro235⟩ : Gh)) h235 h235 := .refl
 refine L_nil ?_
 refine W_seq ?_
 refine W_region ?_
 refine L_g 4 kr ?_
 refine L_c rfl rfl kr (start_ok (R235.ow T235) hp1 hr_235 (H.sm (((X235).ow T235)).sm hs) he2) ?_
 rintro v236 h236 N236
 dsimp only at N236
 obtain ⟨S236, C236, ro236, R236, Y236⟩ := N236
 have X236 := ((X235).ow T235).trans Y236
 have hr_236 := (Y236.keep _ hr_235).1
 have T236 : Sm (Ow h (⟨Gh.B (⟨Gh.B G, S235, C235, ro235⟩ : Gh), S236, C236, ro236⟩ : Gh)) h236 h236 := .refl
 refine L_nil ?_
 refine W_seq ?_
 refine W_region ?_
 refine L_g 1 kr ?_
 refine L_nil ?_
 refine W_ret ?_
 repeat first | with_reducible refine then_ret ?_ | with_reducible refine blk_ret ?_
 refine done_of (v := nv 0) (.inl rfl) kr ?_
 exact ⟨rfl, _, _, _, (R236.ow T236), ((X236).ow T236)⟩
theorem startf_recv {W : Wd} {G : Gh} {h : AH} {p no : Nat} {d : By} {s : Value} {W1 W2 : Wd} (R : Rep W G h) (hp : p < W.n) (hm : no ∈ (W.pr p).reqs) (h1 : (W.rq p no).pers = true) (h2 : (W.rq p no).act = false) (hsd : (W.rq p no).send = false) (hld : d.length ≤ 4096) (hd00 : d = []) (H : Rb h s (d.map bv)) (hs : ∀ b, vb s = some b → ¬ G.mut b) (he1 : W.call p = some W1) (he2 : W1.start p no d = some W2) :
  Arm.Calls Try.prog 24 [ptr (G.B .wd), nv (p : Int), nv (no : Int), s] h (fun r => r.1 = nv 0 ∧ Nxt W2 G h r.2) := by
 have hp1 : p < W1.n := by rw [Wd.call_n he1]; exact hp
 have hr := (R.rel.pr p hp).rqp no hm
 obtain ⟨dv0, hd0, c0⟩ := R.rqL hp hr
 replace c0 : Arm.Cl h (G.B (.rq p no)) [nk (W.rq p no).no, nv (W.rq p no).peer, nv (W.rq p no).ctx, nv (W.rq p no).tag, nv (W.rq p no).room, .bool (W.rq p no).send, .bool (W.rq p no).sync, .bool (W.rq p no).pers, .bool (W.rq p no).act, .bool (W.rq p no).done, nk (W.rq p no).parts, nk (W.rq p no).size, dv0, G.S (.pcs p no), nk (W.rq p no).gone, G.S (.snt p no), .bool (W.rq p no).clr, nv (W.rq p no).st.src, nv (W.rq p no).st.tag, nv (W.rq p no).st.size, nv (W.rq p no).st.err] := c0
 refine Calls_of_W (n := 45) (fn := Try.f24) kr rfl rfl (Nat.le_of_ble_eq_true rfl) trivial ⟨.inr (by simp), rfl⟩ ?_
 have T0 : Sm Nix h h := .refl
 refine W_seq ?_
 refine W_region ?_
 refine L_g 1 kr ?_
 refine L_nil ?_
 refine W_seq ?_
 refine W_region ?_
 refine L_g 3 kr ?_
 refine L_c rfl rfl kr (idle_ok (R.ext T0) hp hm h1 h2) ?_
 rintro v237 h237 ⟨e237, t237⟩
 try dsimp only at e237
 try dsimp only at t237
 subst e237
 have T237 : Sm Nix h h237 := T0.ext t237
 have N237 := T237.nx
 have M237 := t237.nx
 refine L_g 5 kr ?_
 refine L_nil ?_
 refine W_seq ?_
 refine W_block ?_
 refine W_seq ?_
 refine W_region ?_
 refine L_g 3 kr ?_
 refine L_nil ?_
 refine W_cond false kr (fun e => by cases e) (fun _ => ?_)
 refine W_seq ?_
 refine W_region ?_
 refine L_g 3 kr ?_
 refine L_ld _ rfl rfl kr (((c0.ext T237).ld (o := 5) kr (by rw [← hsd]; rfl) : aLoad Try.prog 4 ⟨G.B (.rq p no), 5, none⟩ h237 = some (.bool false))) ?_
 refine L_g 3 kr ?_
 refine L_want kr ?_
 refine L_ln _ rfl rfl kr ((H.lenA (T := 23) (el := 5) kr _)) ?_
 refine L_want kr ?_
 refine L_i (((List.map bv d).length : Int)) (0) (.bool false) rfl rfl kr kr rfl (by rw [hd00]; rfl) ?_
 refine L_g 2 kr ?_
 refine L_nil ?_
 refine W_cond false kr (fun e => by cases e) (fun _ => ?_)
 refine W_seq ?_
 refine W_region ?_
 refine L_g 1 kr ?_
 refine L_ln _ rfl rfl kr ((H.lenA (T := 23) (el := 5) kr _)) ?_
 refine L_i (((List.map bv d).length : Int)) (4096) (.bool false) rfl rfl kr kr rfl (by simp; omega) ?_
 refine L_g 1 kr ?_
 refine L_nil ?_
 refine W_cond false kr (fun e => by cases e) (fun _ => ?_)
 refine W_skip ?_
 refine W_seq ?_
 refine W_region ?_
 refine L_g 2 kr ?_
 refine L_c rfl rfl kr (call_ok (R.ext T237) hp he1) ?_
 rintro v238 h238 ⟨e238, N238⟩
 dsimp only at e238 N238
 subst e238
 obtain ⟨S238, C238, ro238, R238, Y238⟩ := N238
 have X238 := ((Gx.refl).trans (Gx.of T237)).trans Y238
 have hr_238 := (Y238.keep _ hr).1
 have T238 : Sm (Ow h (⟨Gh.B G, S238, C238, ro238⟩ : Gh)) h238 h238 := .refl
 refine L_nil ?_
 refine W_seq ?_
 refine W_region ?_
 refine L_g 4 kr ?_
 refine L_c rfl rfl kr (start_ok (R238.ow T238) hp1 hr_238 (H.sm (((X238).ow T238)).sm hs) he2) ?_
 rintro v239 h239 N239
 dsimp only at N239
 obtain ⟨S239, C239, ro239, R239, Y239⟩ := N239
 have X239 := ((X238).ow T238).trans Y239
 have hr_239 := (Y239.keep _ hr_238).1
 have T239 : Sm (Ow h (⟨Gh.B (⟨Gh.B G, S238, C238, ro238⟩ : Gh), S239, C239, ro239⟩ : Gh)) h239 h239 := .refl
 refine L_nil ?_
 refine W_seq ?_
 refine W_region ?_
 refine L_g 1 kr ?_
 refine L_nil ?_
 refine W_ret ?_
 repeat first | with_reducible refine then_ret ?_ | with_reducible refine blk_ret ?_
 refine done_of (v := nv 0) (.inl rfl) kr ?_
 exact ⟨rfl, _, _, _, (R239.ow T239), ((X239).ow T239)⟩
theorem startf_act {W : Wd} {G : Gh} {h : AH} {p no : Nat} {s : Value} (R : Rep W G h) (hp : p < W.n) (hm : no ∈ (W.pr p).reqs) (h1 : (W.rq p no).pers = true) (h2 : (W.rq p no).act = true) :
  Arm.Calls Try.prog 24 [ptr (G.B .wd), nv (p : Int), nv (no : Int), s] h (fun r => r.1 = nv 6 ∧ Sm Nix h r.2) := by
 refine Calls_of_W (n := 45) (fn := Try.f24) kr rfl rfl (Nat.le_of_ble_eq_true rfl) trivial ⟨.inr (by simp), rfl⟩ ?_
 have T0 : Sm Nix h h := .refl
 refine W_seq ?_
 refine W_region ?_
 refine L_g 1 kr ?_
 refine L_nil ?_
 refine W_seq ?_
 refine W_region ?_
 refine L_g 3 kr ?_
 refine L_c rfl rfl kr (idle_act (R.ext T0) hp hm h1 h2) ?_
 rintro v213 h213 ⟨e213, t213⟩
 try dsimp only at e213
 try dsimp only at t213
 subst e213
 have T213 : Sm Nix h h213 := T0.ext t213
 have N213 := T213.nx
 have M213 := t213.nx
 refine L_g 5 kr ?_
 refine L_nil ?_
 refine W_seq ?_
 refine W_block ?_
 refine W_seq ?_
 refine W_region ?_
 refine L_g 3 kr ?_
 refine L_nil ?_
 refine W_cond true kr (fun _ => ?_) (fun e => by cases e)
 refine W_seq ?_
 refine W_region ?_
 refine L_g 2 kr ?_
 refine L_nil ?_
 refine W_ret ?_
 repeat first | with_reducible refine then_ret ?_ | with_reducible refine blk_ret ?_
 refine done_of (v := nv 6) (.inl rfl) kr ?_
 exact ⟨rfl, T213⟩
theorem free_ok {W : Wd} {G : Gh} {h : AH} {p no : Nat} {W1 : Wd} (R : Rep W G h) (hp : p < W.n) (hm : no ∈ (W.pr p).reqs) (h1 : (W.rq p no).pers = true) (h2 : (W.rq p no).act = false) (he1 : W.call p = some W1) :
  Arm.Calls Try.prog 25 [ptr (G.B .wd), nv (p : Int), nv (no : Int)] h (fun r => r.1 = nv 0 ∧ Nxt (W1.setPr p { W1.pr p with reqs := (W1.pr p).reqs.erase no }) G h r.2) := by
 have hp1 : p < W1.n := by rw [Wd.call_n he1]; exact hp
 refine Calls_of_W (n := 33) (fn := Try.f25) kr rfl rfl (Nat.le_of_ble_eq_true rfl) trivial ⟨.inr (by simp), rfl⟩ ?_
 have T0 : Sm Nix h h := .refl
 refine W_seq ?_
 refine W_region ?_
 refine L_g 1 kr ?_
 refine L_nil ?_
 refine W_seq ?_
 refine W_seq ?_
 refine W_region ?_
 refine L_g 3 kr ?_
 refine L_c rfl rfl kr (idle_ok (R.ext T0) hp hm h1 h2) ?_
 rintro v214 h214 ⟨e214, t214⟩
 try dsimp only at e214
 try dsimp only at t214
 subst e214
 have T214 : Sm Nix h h214 := T0.ext t214
 have N214 := T214.nx
 have M214 := t214.nx
 refine L_g 5 kr ?_
 refine L_nil ?_
 refine W_seq ?_
 refine W_region ?_
 refine L_g 2 kr ?_
 refine L_nil ?_
 refine W_cond false kr (fun e => by cases e) (fun _ => ?_)
 refine W_skip ?_
 refine W_seq ?_
 refine W_region ?_
 refine L_g 2 kr ?_
 refine L_c rfl rfl kr (call_ok (R.ext T214) hp he1) ?_
 rintro v215 h215 ⟨e215, N215⟩
 dsimp only at e215 N215
 subst e215
 obtain ⟨S215, C215, ro215, R215, Y215⟩ := N215
 have X215 := ((Gx.refl).trans (Gx.of T214)).trans Y215
 have T215 : Sm (Ow h (⟨Gh.B G, S215, C215, ro215⟩ : Gh)) h215 h215 := .refl
 refine L_nil ?_
 refine W_seq ?_
 refine W_region ?_
 refine L_g 3 kr ?_
 refine L_ld _ rfl rfl kr ((R215.ow T215).wdL.ld (o := 1) kr rfl) ?_
 refine L_g 1 kr ?_
 obtain ⟨b1, o1, i1, l1⟩ := (R215.ow T215).prsAt (P := Try.prog) (T := 74) (el := 77) kr kr kr hp1
 refine L_ix _ rfl rfl kr kr (i1) ?_
 refine L_ld _ rfl rfl kr (l1) ?_
 refine L_g 2 kr ?_
 refine L_ld _ rfl rfl kr (((R215.ow T215).prL hp1).ld (o := 1) kr rfl) ?_
 refine L_g 1 kr ?_
 have hE := (R215.ow T215).rqs (p := p) hp1
 obtain ⟨h216, e216, mp216, t216, n216⟩ := hE.1.delete (P := Try.prog) (T := 78) (el := 103) kr kNum (no : Int)
 have e9 := kdel_reqs (f := fun k => ptr (Gh.B (⟨Gh.B G, S215, C215, ro215⟩ : Gh) (.rq p k))) (l := (W1.pr p).reqs) (k := no)
 have mp9216 : Mp h216 (Gh.B (⟨Gh.B G, S215, C215, ro215⟩ : Gh) (.rqs p)) nv Eq (((W1.pr p).reqs.erase no).map fun (k : Nat) => ((k : Int), ptr (Gh.B (⟨Gh.B G, S215, C215, ro215⟩ : Gh) (.rq p k)))) := e9 ▸ mp216
 have N216 : Nxt (W1.setPr p { W1.pr p with reqs := (W1.pr p).reqs.erase no }) (⟨Gh.B G, S215, C215, ro215⟩ : Gh) h215 h216 := (R215.ow T215).setRqs (p := p) hp1 (fun k hk => ((R215.ow T215).rel.pr p hp1).rqp k (List.mem_of_mem_erase hk)) mp9216 (hE.2.delete e216) t216
 refine L_bi _ _ rfl rfl kr kr (bi_delete e216) ?_
 obtain ⟨S216, C216, ro216, R216, Y216⟩ := N216
 have X216 := ((X215).ow T215).trans Y216
 have T216 : Sm (Ow h (⟨Gh.B (⟨Gh.B G, S215, C215, ro215⟩ : Gh), S216, C216, ro216⟩ : Gh)) h216 h216 := .refl
 refine L_nil ?_
 refine W_seq ?_
 refine W_region ?_
 refine L_g 1 kr ?_
 refine L_nil ?_
 refine W_ret ?_
 repeat first | with_reducible refine then_ret ?_ | with_reducible refine blk_ret ?_
 refine done_of (v := nv 0) (.inl rfl) kr ?_
 exact ⟨rfl, _, _, _, (R216.ow T216), ((X216).ow T216)⟩
theorem free_act {W : Wd} {G : Gh} {h : AH} {p no : Nat} (R : Rep W G h) (hp : p < W.n) (hm : no ∈ (W.pr p).reqs) (h1 : (W.rq p no).pers = true) (h2 : (W.rq p no).act = true) :
  Arm.Calls Try.prog 25 [ptr (G.B .wd), nv (p : Int), nv (no : Int)] h (fun r => r.1 = nv 6 ∧ Sm Nix h r.2) := by
 refine Calls_of_W (n := 33) (fn := Try.f25) kr rfl rfl (Nat.le_of_ble_eq_true rfl) trivial ⟨.inr (by simp), rfl⟩ ?_
 have T0 : Sm Nix h h := .refl
 refine W_seq ?_
 refine W_region ?_
 refine L_g 1 kr ?_
 refine L_nil ?_
 refine W_seq ?_
 refine W_seq ?_
 refine W_region ?_
 refine L_g 3 kr ?_
 refine L_c rfl rfl kr (idle_act (R.ext T0) hp hm h1 h2) ?_
 rintro v217 h217 ⟨e217, t217⟩
 try dsimp only at e217
 try dsimp only at t217
 subst e217
 have T217 : Sm Nix h h217 := T0.ext t217
 have N217 := T217.nx
 have M217 := t217.nx
 refine L_g 5 kr ?_
 refine L_nil ?_
 refine W_seq ?_
 refine W_region ?_
 refine L_g 2 kr ?_
 refine L_nil ?_
 refine W_cond true kr (fun _ => ?_) (fun e => by cases e)
 refine W_seq ?_
 refine W_region ?_
 refine L_g 2 kr ?_
 refine L_nil ?_
 refine W_ret ?_
 repeat first | with_reducible refine then_ret ?_ | with_reducible refine blk_ret ?_
 refine done_of (v := nv 6) (.inl rfl) kr ?_
 exact ⟨rfl, T217⟩
theorem free_none {W : Wd} {G : Gh} {h : AH} {p : Nat} {x : Int} (R : Rep W G h) (hp : p < W.n) (hm : ∀ k, k ∈ (W.pr p).reqs → (k : Int) ≠ x) :
  Arm.Calls Try.prog 25 [ptr (G.B .wd), nv (p : Int), nv x] h (fun r => r.1 = nv 4 ∧ Sm Nix h r.2) := by
 refine Calls_of_W (n := 33) (fn := Try.f25) kr rfl rfl (Nat.le_of_ble_eq_true rfl) trivial ⟨.inr (by simp), rfl⟩ ?_
 have T0 : Sm Nix h h := .refl
 refine W_seq ?_
 refine W_region ?_
 refine L_g 1 kr ?_
 refine L_nil ?_
 refine W_seq ?_
 refine W_seq ?_
 refine W_region ?_
 refine L_g 3 kr ?_
 refine L_c rfl rfl kr (idle_none (R.ext T0) hp hm) ?_
 rintro v218 h218 ⟨e218, t218⟩
 try dsimp only at e218
 try dsimp only at t218
 subst e218
 have T218 : Sm Nix h h218 := T0.ext t218
 have N218 := T218.nx
 have M218 := t218.nx
 refine L_g 5 kr ?_
 refine L_nil ?_
 refine W_seq ?_
 refine W_region ?_
 refine L_g 2 kr ?_
 refine L_nil ?_
 refine W_cond true kr (fun _ => ?_) (fun e => by cases e)
 refine W_seq ?_
 refine W_region ?_
 refine L_g 2 kr ?_
 refine L_nil ?_
 refine W_ret ?_
 repeat first | with_reducible refine then_ret ?_ | with_reducible refine blk_ret ?_
 refine done_of (v := nv 4) (.inl rfl) kr ?_
 exact ⟨rfl, T218⟩
end
end Go.Proofs.Ytmehemeoaplepaa
namespace Go.Proofs.Ytmehemeoaplepaa
noncomputable section
open Go Go.X Go.Arm Go.Mt
theorem evR_c4 {P : Program} {n : Nat} {f : Fr} {h : AH} {k i j l : Nat} {T : TypeId} {a : Addr} {v u x y : Value} (hk : Nat.blt k n = true) (hi : Nat.blt i n = true) (hj : Nat.blt j n = true) (hl' : Nat.blt l n = true) (hf : f k = .pointer (some a)) (hl : aLoad P T a h = some v) (h1 : f i = u) (h2 : f j = x) (h3 : f l = y) : evR P n f h [.cell k T, .tmp i, .tmp j, .tmp l] = some (.tuple ⟨[v, u, x, y]⟩) := by
 have e1 : evR1 P n f h (.cell k T) = some v := by unfold evR1; simp only [hk, hf]; exact hl
 have e2 : evR1 P n f h (.tmp i) = some u := by unfold evR1; simp only [hi, h1]
 have e3 : evR1 P n f h (.tmp j) = some x := by unfold evR1; simp only [hj, h2]
 have e4 : evR1 P n f h (.tmp l) = some y := by unfold evR1; simp only [hl', h3]
 unfold evR evRL evRL evRL evRL evRL
 rw [e1, e2, e3, e4]
theorem test_send {W : Wd} {G : Gh} {h : AH} {p no : Nat} {W1 : Wd} (R : Rep W G h) (hp : p < W.n) (hm : no ∈ (W.pr p).reqs) (hact : (W.rq p no).act = true) (he1 : W.call p = some W1) (hdone : (W1.rq p no).done = true) (hsd : (W1.rq p no).send = true) :
  Arm.Calls Try.prog 15 [ptr (G.B .wd), nv (p : Int), nv (no : Int)] h (fun r => r.1 = .tuple ⟨[.agg ⟨[nv (W1.rq p no).st.src, nv (W1.rq p no).st.tag, nv (W1.rq p no).st.size, nv (W1.rq p no).st.err]⟩, .slice none 0 0, .bool true, nv 0]⟩ ∧ Nxt (W1.over p no) G h r.2) := by
 have hp1 : p < W1.n := by rw [Wd.call_n he1]; exact hp
 have hr := (R.rel.pr p hp).rqp no hm
 refine Calls_of_W (n := 53) (fn := Try.f15) kr rfl rfl (Nat.le_of_ble_eq_true rfl) trivial ⟨.inr (by simp), rfl⟩ ?_
 have T0 : Sm Nix h h := .refl
 refine W_seq ?_
 refine W_region ?_
 refine L_nw (Al.cells [nv 0, nv 0, nv 0, nv 0]) .ptr rfl rfl kr ?_
 have m244 : ¬ (Gh.mut G) h.next ∧ ¬ (Gh.ro G) h.next := ⟨(R.ext T0).op.new (Nat.le_refl _), (R.ext T0).op.newr (Nat.le_refl _)⟩
 have c244 : Cl (h.push (Al.cells [nv 0, nv 0, nv 0, nv 0]).obj) h.next [nv 0, nv 0, nv 0, nv 0] := Cl.new h _
 have t244 : Sm Nix h (h.push (Al.cells [nv 0, nv 0, nv 0, nv 0]).obj) := .push h _
 have n244 : (h.push (Al.cells [nv 0, nv 0, nv 0, nv 0]).obj).next = h.next + 1 := rfl
 generalize h.push (Al.cells [nv 0, nv 0, nv 0, nv 0]).obj = h244 at c244 t244 n244 ⊢
 have T244 : Sm Nix h h244 := T0.ext t244
 have N244 := T244.nx
 refine L_g 3 kr ?_
 refine L_nil ?_
 refine W_seq ?_
 refine W_region ?_
 refine L_g 3 kr ?_
 refine L_c rfl rfl kr (begun_ok (R.ext T244) hp hm hact) ?_
 rintro v245 h245 ⟨e245, t245⟩
 try dsimp only at e245
 try dsimp only at t245
 subst e245
 replace c244 := c244.ext t245
 have T245 : Sm Nix h h245 := T244.ext t245
 have N245 := T245.nx
 have M245 := t245.nx
 refine L_g 5 kr ?_
 refine L_nil ?_
 refine W_seq ?_
 refine W_seq ?_
 refine W_region ?_
 refine L_g 2 kr ?_
 refine L_nil ?_
 refine W_cond false kr (fun e => by cases e) (fun _ => ?_)
 refine W_skip ?_
 refine W_seq ?_
 refine W_region ?_
 refine L_g 2 kr ?_
 refine L_c rfl rfl kr (call_ok (R.ext T245) hp he1) ?_
 rintro v246 h246 ⟨e246, N246⟩
 dsimp only at e246 N246
 subst e246
 obtain ⟨S246, C246, ro246, R246, Y246⟩ := N246
 have X246 := ((Gx.refl).trans (Gx.of T245)).trans Y246
 have hr_246 := (Y246.keep _ hr).1
 have m244_246 : ¬ (Gh.mut ⟨Gh.B G, S246, C246, ro246⟩) (h.next) ∧ ¬ (Gh.ro ⟨Gh.B G, S246, C246, ro246⟩) (h.next) := ⟨fun hm => (Y246.mu _ hm).elim m244.1 (fun e => by have := c244.lt; omega), fun hm => (Y246.ron _ hm).elim m244.2 (fun e => by have := c244.lt; omega)⟩
 replace c244 := c244.sm Y246.sm m244.1
 have T246 : Sm (Ow h (⟨Gh.B G, S246, C246, ro246⟩ : Gh)) h246 h246 := .refl
 obtain ⟨dvz, hdz, cz⟩ := R246.rqL (p := p) hp1 hr_246
 replace cz : Arm.Cl h246 (G.B (.rq p no)) [nk (W1.rq p no).no, nv (W1.rq p no).peer, nv (W1.rq p no).ctx, nv (W1.rq p no).tag, nv (W1.rq p no).room, .bool (W1.rq p no).send, .bool (W1.rq p no).sync, .bool (W1.rq p no).pers, .bool (W1.rq p no).act, .bool (W1.rq p no).done, nk (W1.rq p no).parts, nk (W1.rq p no).size, dvz, (⟨G.B, S246, C246, ro246⟩ : Gh).S (.pcs p no), nk (W1.rq p no).gone, (⟨G.B, S246, C246, ro246⟩ : Gh).S (.snt p no), .bool (W1.rq p no).clr, nv (W1.rq p no).st.src, nv (W1.rq p no).st.tag, nv (W1.rq p no).st.size, nv (W1.rq p no).st.err] := cz
 obtain ⟨da, dc, rfl⟩ := hdz.1.form
 refine L_nil ?_
 refine W_seq ?_
 refine W_seq ?_
 refine W_region ?_
 refine L_g 3 kr ?_
 refine L_ld _ rfl rfl kr (((cz.sm T246 (fun hx => hx.2.1 ⟨.rq p no, hr_246, rfl⟩)).ld (o := 9) kr (by rw [← hdone]; rfl) : aLoad Try.prog 4 ⟨G.B (.rq p no), 9, none⟩ h246 = some (.bool true))) ?_
 refine L_g 1 kr ?_
 refine L_nil ?_
 refine W_cond false kr (fun e => by cases e) (fun _ => ?_)
 refine W_skip ?_
 refine W_seq ?_
 refine W_region ?_
 refine L_g 3 kr ?_
 refine L_c rfl rfl kr (over_ok (R246.ow T246) hp1 hr_246) ?_
 rintro v247 h247 N247
 dsimp only at N247
 obtain ⟨S247, C247, ro247, R247, Y247⟩ := N247
 have X247 := ((X246).ow T246).trans Y247
 have hr_247 := (Y247.keep _ hr_246).1
 have m244_246_247 : ¬ (Gh.mut ⟨Gh.B (⟨Gh.B G, S246, C246, ro246⟩ : Gh), S247, C247, ro247⟩) (h.next) ∧ ¬ (Gh.ro ⟨Gh.B (⟨Gh.B G, S246, C246, ro246⟩ : Gh), S247, C247, ro247⟩) (h.next) := ⟨fun hm => (Y247.mu _ hm).elim m244_246.1 (fun e => by have := c244.lt; omega), fun hm => (Y247.ron _ hm).elim m244_246.2 (fun e => by have := c244.lt; omega)⟩
 replace c244 := c244.sm Y247.sm m244_246.1
 have T247 : Sm (Ow h (⟨Gh.B (⟨Gh.B G, S246, C246, ro246⟩ : Gh), S247, C247, ro247⟩ : Gh)) h247 h247 := .refl
 have eo : (W1.over p no).rq p no = { W1.rq p no with act := false } := Wd.over_rq W1 p no
 have hp2 : p < (W1.over p no).n := by rw [Wd.over_n]; exact hp1
 obtain ⟨dvy, hdy, cy⟩ := R247.rqL (p := p) hp2 hr_247
 rw [eo] at hdy cy
 replace cy : Arm.Cl h247 (G.B (.rq p no)) [nk (W1.rq p no).no, nv (W1.rq p no).peer, nv (W1.rq p no).ctx, nv (W1.rq p no).tag, nv (W1.rq p no).room, .bool (W1.rq p no).send, .bool (W1.rq p no).sync, .bool (W1.rq p no).pers, .bool false, .bool (W1.rq p no).done, nk (W1.rq p no).parts, nk (W1.rq p no).size, dvy, (⟨G.B, S247, C247, ro247⟩ : Gh).S (.pcs p no), nk (W1.rq p no).gone, (⟨G.B, S247, C247, ro247⟩ : Gh).S (.snt p no), .bool (W1.rq p no).clr, nv (W1.rq p no).st.src, nv (W1.rq p no).st.tag, nv (W1.rq p no).st.size, nv (W1.rq p no).st.err] := cy
 obtain ⟨ea, ec, rfl⟩ := hdy.1.form
 refine L_nil ?_
 refine W_seq ?_
 refine W_seq ?_
 refine W_region ?_
 refine L_g 3 kr ?_
 refine L_ld _ rfl rfl kr (((cy.sm T247 (fun hx => hx.2.1 ⟨.rq p no, hr_247, rfl⟩)).ld (o := 5) kr (by rw [← hsd]; rfl) : aLoad Try.prog 4 ⟨G.B (.rq p no), 5, none⟩ h247 = some (.bool true))) ?_
 refine L_nil ?_
 refine W_cond true kr (fun _ => ?_) (fun e => by cases e)
 refine W_seq ?_
 refine W_region ?_
 refine L_g 3 kr ?_
 refine L_ld _ rfl rfl kr ((cy.sm T247 (fun hx => hx.2.1 ⟨.rq p no, hr_247, rfl⟩)).ldS (k := 4) (o := 17) kr (by simp)) ?_
 obtain ⟨h248, e248, d248, t248, n248⟩ := Cl.storeN (P := Try.prog) (T := 43) (n := 4) (v := .agg ⟨[nv (W1.rq p no).st.src, nv (W1.rq p no).st.tag, nv (W1.rq p no).st.size, nv (W1.rq p no).st.err]⟩) (cs := [nv (W1.rq p no).st.src, nv (W1.rq p no).st.tag, nv (W1.rq p no).st.size, nv (W1.rq p no).st.err]) c244 rfl kr rfl rfl (List.all_eq_true.1 rfl)
 replace c244 := d248
 have T248 : Sm (Ow h (⟨Gh.B (⟨Gh.B G, S246, C246, ro246⟩ : Gh), S247, C247, ro247⟩ : Gh)) h247 h248 := T247.trans t248 (fun x hx => by have hx : x = h.next := hx; subst hx; first | exact .inr (by omega) | exact .inl ⟨by omega, m244_246_247.1, m244_246_247.2⟩ | exact .inl rfl)
 have N248 := T248.nx
 refine L_st _ rfl rfl rfl kr kr (e248) ?_
 refine L_g 3 kr ?_
 refine L_nil ?_
 refine W_ret ?_
 repeat first | with_reducible refine then_ret ?_ | with_reducible refine blk_ret ?_
 refine done_of (.inl rfl) (evR_c4 kr kr kr kr (a := ⟨h.next, 0, none⟩) kr (Cl.allN (n := 4) c244 rfl kr) (u := .slice none 0 0) kr (x := .bool true) kr (y := nv 0) kr) ?_
 exact ⟨rfl, _, _, _, (R247.ow T248), ((X247).ow T248)⟩
theorem test_recv {W : Wd} {G : Gh} {h : AH} {p no : Nat} {W1 : Wd} (R : Rep W G h) (hp : p < W.n) (hm : no ∈ (W.pr p).reqs) (hact : (W.rq p no).act = true) (he1 : W.call p = some W1) (hdone : (W1.rq p no).done = true) (hsd : (W1.rq p no).send = false) (hdl : (W1.rq p no).data.length < big) :
  Arm.Calls Try.prog 15 [ptr (G.B .wd), nv (p : Int), nv (no : Int)] h (fun r => ∃ v, r.1 = .tuple ⟨[.agg ⟨[nv (W1.rq p no).st.src, nv (W1.rq p no).st.tag, nv (W1.rq p no).st.size, nv (W1.rq p no).st.err]⟩, v, .bool true, nv 0]⟩ ∧ Rb r.2 v ((W1.rq p no).data.map bv) ∧ Nxt (W1.over p no) G h r.2) := by
 have hp1 : p < W1.n := by rw [Wd.call_n he1]; exact hp
 have hr := (R.rel.pr p hp).rqp no hm
 refine Calls_of_W (n := 53) (fn := Try.f15) kr rfl rfl (Nat.le_of_ble_eq_true rfl) trivial ⟨.inr (by simp), rfl⟩ ?_
 have T0 : Sm Nix h h := .refl
 refine W_seq ?_
 refine W_region ?_
 refine L_nw (Al.cells [nv 0, nv 0, nv 0, nv 0]) .ptr rfl rfl kr ?_
 have m249 : ¬ (Gh.mut G) h.next ∧ ¬ (Gh.ro G) h.next := ⟨(R.ext T0).op.new (Nat.le_refl _), (R.ext T0).op.newr (Nat.le_refl _)⟩
 have c249 : Cl (h.push (Al.cells [nv 0, nv 0, nv 0, nv 0]).obj) h.next [nv 0, nv 0, nv 0, nv 0] := Cl.new h _
 have t249 : Sm Nix h (h.push (Al.cells [nv 0, nv 0, nv 0, nv 0]).obj) := .push h _
 have n249 : (h.push (Al.cells [nv 0, nv 0, nv 0, nv 0]).obj).next = h.next + 1 := rfl
 generalize h.push (Al.cells [nv 0, nv 0, nv 0, nv 0]).obj = h249 at c249 t249 n249 ⊢
 have T249 : Sm Nix h h249 := T0.ext t249
 have N249 := T249.nx
 refine L_g 3 kr ?_
 refine L_nil ?_
 refine W_seq ?_
 refine W_region ?_
 refine L_g 3 kr ?_
 refine L_c rfl rfl kr (begun_ok (R.ext T249) hp hm hact) ?_
 rintro v250 h250 ⟨e250, t250⟩
 try dsimp only at e250
 try dsimp only at t250
 subst e250
 replace c249 := c249.ext t250
 have T250 : Sm Nix h h250 := T249.ext t250
 have N250 := T250.nx
 have M250 := t250.nx
 refine L_g 5 kr ?_
 refine L_nil ?_
 refine W_seq ?_
 refine W_seq ?_
 refine W_region ?_
 refine L_g 2 kr ?_
 refine L_nil ?_
 refine W_cond false kr (fun e => by cases e) (fun _ => ?_)
 refine W_skip ?_
 refine W_seq ?_
 refine W_region ?_
 refine L_g 2 kr ?_
 refine L_c rfl rfl kr (call_ok (R.ext T250) hp he1) ?_
 rintro v251 h251 ⟨e251, N251⟩
 dsimp only at e251 N251
 subst e251
 obtain ⟨S251, C251, ro251, R251, Y251⟩ := N251
 have X251 := ((Gx.refl).trans (Gx.of T250)).trans Y251
 have hr_251 := (Y251.keep _ hr).1
 have m249_251 : ¬ (Gh.mut ⟨Gh.B G, S251, C251, ro251⟩) (h.next) ∧ ¬ (Gh.ro ⟨Gh.B G, S251, C251, ro251⟩) (h.next) := ⟨fun hm => (Y251.mu _ hm).elim m249.1 (fun e => by have := c249.lt; omega), fun hm => (Y251.ron _ hm).elim m249.2 (fun e => by have := c249.lt; omega)⟩
 replace c249 := c249.sm Y251.sm m249.1
 have T251 : Sm (Ow h (⟨Gh.B G, S251, C251, ro251⟩ : Gh)) h251 h251 := .refl
 obtain ⟨dvz, hdz, cz⟩ := R251.rqL (p := p) hp1 hr_251
 replace cz : Arm.Cl h251 (G.B (.rq p no)) [nk (W1.rq p no).no, nv (W1.rq p no).peer, nv (W1.rq p no).ctx, nv (W1.rq p no).tag, nv (W1.rq p no).room, .bool (W1.rq p no).send, .bool (W1.rq p no).sync, .bool (W1.rq p no).pers, .bool (W1.rq p no).act, .bool (W1.rq p no).done, nk (W1.rq p no).parts, nk (W1.rq p no).size, dvz, (⟨G.B, S251, C251, ro251⟩ : Gh).S (.pcs p no), nk (W1.rq p no).gone, (⟨G.B, S251, C251, ro251⟩ : Gh).S (.snt p no), .bool (W1.rq p no).clr, nv (W1.rq p no).st.src, nv (W1.rq p no).st.tag, nv (W1.rq p no).st.size, nv (W1.rq p no).st.err] := cz
 obtain ⟨da, dc, rfl⟩ := hdz.1.form
 refine L_nil ?_
 refine W_seq ?_
 refine W_seq ?_
 refine W_region ?_
 refine L_g 3 kr ?_
 refine L_ld _ rfl rfl kr (((cz.sm T251 (fun hx => hx.2.1 ⟨.rq p no, hr_251, rfl⟩)).ld (o := 9) kr (by rw [← hdone]; rfl) : aLoad Try.prog 4 ⟨G.B (.rq p no), 9, none⟩ h251 = some (.bool true))) ?_
 refine L_g 1 kr ?_
 refine L_nil ?_
 refine W_cond false kr (fun e => by cases e) (fun _ => ?_)
 refine W_skip ?_
 refine W_seq ?_
 refine W_region ?_
 refine L_g 3 kr ?_
 refine L_c rfl rfl kr (over_ok (R251.ow T251) hp1 hr_251) ?_
 rintro v252 h252 N252
 dsimp only at N252
 obtain ⟨S252, C252, ro252, R252, Y252⟩ := N252
 have X252 := ((X251).ow T251).trans Y252
 have hr_252 := (Y252.keep _ hr_251).1
 have m249_251_252 : ¬ (Gh.mut ⟨Gh.B (⟨Gh.B G, S251, C251, ro251⟩ : Gh), S252, C252, ro252⟩) (h.next) ∧ ¬ (Gh.ro ⟨Gh.B (⟨Gh.B G, S251, C251, ro251⟩ : Gh), S252, C252, ro252⟩) (h.next) := ⟨fun hm => (Y252.mu _ hm).elim m249_251.1 (fun e => by have := c249.lt; omega), fun hm => (Y252.ron _ hm).elim m249_251.2 (fun e => by have := c249.lt; omega)⟩
 replace c249 := c249.sm Y252.sm m249_251.1
 have T252 : Sm (Ow h (⟨Gh.B (⟨Gh.B G, S251, C251, ro251⟩ : Gh), S252, C252, ro252⟩ : Gh)) h252 h252 := .refl
 have eo : (W1.over p no).rq p no = { W1.rq p no with act := false } := Wd.over_rq W1 p no
 have hp2 : p < (W1.over p no).n := by rw [Wd.over_n]; exact hp1
 obtain ⟨dvy, hdy, cy⟩ := R252.rqL (p := p) hp2 hr_252
 rw [eo] at hdy cy
 replace cy : Arm.Cl h252 (G.B (.rq p no)) [nk (W1.rq p no).no, nv (W1.rq p no).peer, nv (W1.rq p no).ctx, nv (W1.rq p no).tag, nv (W1.rq p no).room, .bool (W1.rq p no).send, .bool (W1.rq p no).sync, .bool (W1.rq p no).pers, .bool false, .bool (W1.rq p no).done, nk (W1.rq p no).parts, nk (W1.rq p no).size, dvy, (⟨G.B, S252, C252, ro252⟩ : Gh).S (.pcs p no), nk (W1.rq p no).gone, (⟨G.B, S252, C252, ro252⟩ : Gh).S (.snt p no), .bool (W1.rq p no).clr, nv (W1.rq p no).st.src, nv (W1.rq p no).st.tag, nv (W1.rq p no).st.size, nv (W1.rq p no).st.err] := cy
 obtain ⟨ea, ec, rfl⟩ := hdy.1.form
 refine L_nil ?_
 refine W_seq ?_
 refine W_seq ?_
 refine W_region ?_
 refine L_g 3 kr ?_
 refine L_ld _ rfl rfl kr (((cy.sm T252 (fun hx => hx.2.1 ⟨.rq p no, hr_252, rfl⟩)).ld (o := 5) kr (by rw [← hsd]; rfl) : aLoad Try.prog 4 ⟨G.B (.rq p no), 5, none⟩ h252 = some (.bool false))) ?_
 refine L_nil ?_
 refine W_cond false kr (fun e => by cases e) (fun _ => ?_)
 refine W_skip ?_
 refine W_seq ?_
 refine W_drawn kr ?_
 refine D_e (e := 8) (l := [0, 1, 2, 3, 4, 5, 6, 7]) (s' := [0, 1, 2, 3]) kr kr rfl kr Rk_nil ?_
 refine NS_b 3 kr ?_
 refine NS_ld _ rfl rfl kr kr kr ((cy.sm T252 (fun hx => hx.2.1 ⟨.rq p no, hr_252, rfl⟩)).ldS (k := 4) (o := 17) kr (by simp)) ?_
 refine NS_b 3 kr ?_
 refine NS_ld _ rfl rfl kr kr kr ((cy.sm T252 (fun hx => hx.2.1 ⟨.rq p no, hr_252, rfl⟩)).ld (o := 12) kr rfl) ?_
 refine NS_nil ?_
 refine L_c rfl rfl kr (clone_by (hdy.ext3 T252).1 (bv_one _) (by rw [List.length_map]; exact hdl)) ?_
 rintro v253 h253 ⟨r253, k253, t253, f253, s253⟩
 dsimp only at r253 k253 t253 f253 s253
 have l6 := c249.lt
 have hne9 : ∀ b, vb v253 = some b → ¬ b = h.next := fun b hb e => by have := (f253 b hb).1; omega
 replace c249 := c249.ext t253
 have T253 : Sm (Ow h (⟨Gh.B (⟨Gh.B G, S251, C251, ro251⟩ : Gh), S252, C252, ro252⟩ : Gh)) h252 h253 := T252.ext t253
 have N253 := T253.nx
 have U253 : Sm (fun c => c = h.next) h253 h253 := .refl
 refine L_nil ⟨rfl, ?_⟩
 refine D_e (e := 9) (l := []) (s' := []) kr kr rfl kr (Rk_1 rfl rfl (Rk_1 rfl rfl (Rk_1 rfl rfl (Rk_ld _ rfl rfl rfl kr ((cy.sm T253 (fun hx => hx.2.1 ⟨.rq p no, hr_252, rfl⟩)).ldS (k := 4) (o := 17) kr (by simp)) kr Rk_nil)))) ?_
 refine NS_nil ?_
 obtain ⟨h254, e254, d254, t254, n254⟩ := Cl.storeN (P := Try.prog) (T := 43) (n := 4) (v := .agg ⟨[nv (W1.rq p no).st.src, nv (W1.rq p no).st.tag, nv (W1.rq p no).st.size, nv (W1.rq p no).st.err]⟩) (cs := [nv (W1.rq p no).st.src, nv (W1.rq p no).st.tag, nv (W1.rq p no).st.size, nv (W1.rq p no).st.err]) c249 rfl kr rfl rfl (List.all_eq_true.1 rfl)
 replace c249 := d254
 have T254 : Sm (Ow h (⟨Gh.B (⟨Gh.B G, S251, C251, ro251⟩ : Gh), S252, C252, ro252⟩ : Gh)) h252 h254 := T253.trans t254 (fun x hx => by have hx : x = h.next := hx; subst hx; first | exact .inr (by omega) | exact .inl ⟨by omega, m249_251_252.1, m249_251_252.2⟩ | exact .inl rfl)
 have U254 : Sm (fun c => c = h.next) h253 h254 := U253.trans t254 (fun x hx => by have hx : x = h.next := hx; subst hx; first | exact .inr (by omega) | exact .inl ⟨by omega, m249_251_252.1, m249_251_252.2⟩ | exact .inl rfl)
 have N254 := T254.nx
 have NU254 := U254.nx
 refine L_st _ rfl rfl rfl kr kr (e254) ?_
 refine L_nil ⟨rfl, ?_⟩
 refine D_l (l := [10, 11, 12]) kr kr Rk_nil ?_
 refine NS_b 3 kr ?_
 refine NS_nil ?_
 refine W_ret ?_
 repeat first | with_reducible refine then_ret ?_ | with_reducible refine blk_ret ?_
 refine done_of (.inl rfl) (evR_c4 kr kr kr kr (a := ⟨h.next, 0, none⟩) kr (Cl.allN (n := 4) c249 rfl kr) (u := v253) kr (x := .bool true) kr (y := nv 0) kr) ?_
 exact ⟨v253, rfl, r253.sm U254 (fun b hb => hne9 b hb), _, _, _, (R252.ow T254), ((X252).ow T254)⟩
theorem test_act {W : Wd} {G : Gh} {h : AH} {p : Nat} {no : Nat} (R : Rep W G h) (hp : p < W.n) (hm : no ∈ (W.pr p).reqs) (hact : (W.rq p no).act = false) :
  Arm.Calls Try.prog 15 [ptr (G.B .wd), nv (p : Int), nv (no : Int)] h (fun r => r.1 = .tuple ⟨[.agg ⟨[nv 0, nv 0, nv 0, nv 0]⟩, .slice none 0 0, .bool false, nv 6]⟩ ∧ Sm Nix h r.2) := by
 refine Calls_of_W (n := 53) (fn := Try.f15) kr rfl rfl (Nat.le_of_ble_eq_true rfl) trivial ⟨.inr (by simp), rfl⟩ ?_
 have T0 : Sm Nix h h := .refl
 refine W_seq ?_
 refine W_region ?_
 refine L_nw (Al.cells [nv 0, nv 0, nv 0, nv 0]) .ptr rfl rfl kr ?_
 have c255 : Cl (h.push (Al.cells [nv 0, nv 0, nv 0, nv 0]).obj) h.next [nv 0, nv 0, nv 0, nv 0] := Cl.new h _
 have t255 : Sm Nix h (h.push (Al.cells [nv 0, nv 0, nv 0, nv 0]).obj) := .push h _
 have n255 : (h.push (Al.cells [nv 0, nv 0, nv 0, nv 0]).obj).next = h.next + 1 := rfl
 generalize h.push (Al.cells [nv 0, nv 0, nv 0, nv 0]).obj = h255 at c255 t255 n255 ⊢
 have T255 : Sm Nix h h255 := T0.ext t255
 have N255 := T255.nx
 refine L_g 3 kr ?_
 refine L_nil ?_
 refine W_seq ?_
 refine W_region ?_
 refine L_g 3 kr ?_
 refine L_c rfl rfl kr (begun_not (R.ext T255) hp hm hact) ?_
 rintro v256 h256 ⟨e256, t256⟩
 try dsimp only at e256
 try dsimp only at t256
 subst e256
 replace c255 := c255.ext t256
 have T256 : Sm Nix h h256 := T255.ext t256
 have N256 := T256.nx
 have M256 := t256.nx
 refine L_g 5 kr ?_
 refine L_nil ?_
 refine W_seq ?_
 refine W_seq ?_
 refine W_region ?_
 refine L_g 2 kr ?_
 refine L_nil ?_
 refine W_cond true kr (fun _ => ?_) (fun e => by cases e)
 refine W_seq ?_
 refine W_region ?_
 refine L_g 2 kr ?_
 obtain ⟨h257, e257, d257, t257, n257⟩ := Cl.storeN (P := Try.prog) (T := 43) (n := 4) (v := .agg ⟨[nv 0, nv 0, nv 0, nv 0]⟩) (cs := [nv 0, nv 0, nv 0, nv 0]) c255 rfl kr rfl rfl (List.all_eq_true.1 rfl)
 replace c255 := d257
 have T257 : Sm Nix h h257 := T256.trans t257 (fun x hx => by have hx : x = h.next := hx; first | exact .inr (by omega) | exact .inl (by subst hx; first | rfl | exact .inl rfl | exact .inr rfl | exact .inr (.inl rfl) | exact .inr (.inr rfl) | (show _ < _; omega)))
 have N257 := T257.nx
 refine L_st _ rfl rfl rfl kr kr (e257) ?_
 refine L_g 3 kr ?_
 refine L_nil ?_
 refine W_ret ?_
 repeat first | with_reducible refine then_ret ?_ | with_reducible refine blk_ret ?_
 refine done_of (.inl rfl) (evR_c4 kr kr kr kr (a := ⟨h.next, 0, none⟩) kr (Cl.allN (n := 4) c255 rfl kr) (u := .slice none 0 0) kr (x := .bool false) kr (y := nv 6) kr) ?_
 exact ⟨rfl, T257⟩
end
end Go.Proofs.Ytmehemeoaplepaa
