/- Worlds of the program and walks of its functions. -/
import Derived.Test.YtmehemeoaplepaaZo
import Derived.Test.YtmehemeoaplepaaZm
import Derived.Test.YtmehemeoaplepaaZj
namespace Go.Proofs.Ytmehemeoaplepaa
noncomputable section
open Go Go.X Go.Arm Go.Mt
theorem evR_c4 {P : Program} {n : Nat} {f : Fr} {h : AH} {k i j l : Nat} {T : TypeId} {a : Addr} {v u x y : Value} (hk : Nat.blt k n = true) (hi : Nat.blt i n = true) (hj : Nat.blt j n = true) (hl' : Nat.blt l n = true) (hf : f k = .pointer (some a)) (hl : aLoad P T a h = some v) (h1 : f i = u) (h2 : f j = x) (h3 : f l = y) : evR P n f h [.cell k T, .tmp i, .tmp j, .tmp l] = some (.tuple ⟨[v, u, x, y]⟩) := by
 have e1 : evR1 P n f h (.cell k T) = some v := by unfold evR1; simp only [hk, hf]; exact hl
 have e2 : evR1 P n f h (.tmp i) = some u := by unfold evR1; simp only [hi, h1]
 have e3 : evR1 P n f h (.tmp j) = some x := by unfold evR1; simp only [hj, h2]
 have e4 : evR1 P n f h (.tmp l) = some y := by unfold evR1; simp only [hl', h3]
 unfold evR evRL evRL evRL evRL evRL
 rw [e1, e2, e3, e4]
theorem test_send {W : Wd} {G : Gh} {h : AH} {p no : Nat} {W1 : Wd} (R : Rep W G h) (hp : p < W.n) (hm : no ∈ (W.pr p).reqs) (hact : (W.rq p no).act = true) (he1 : W.call p = some W1) (hdone : (W1.rq p no).done = true) (hsd : (W1.rq p no).send = true) :
  Arm.Calls Try.prog 15 [ptr (G.B .wd), nv (p : Int), nv (no : Int)] h (fun r => r.1 = .tuple ⟨[.agg ⟨[nv (W1.rq p no).st.src, nv (W1.rq p no).st.tag, nv (W1.rq p no).st.size, nv (W1.rq p no).st.err]⟩, .slice none 0 0, .bool true, nv 0]⟩ ∧ Nxt (W1.over p no) G h r.2) := by
 have hp1 : p < W1.n := by rw [Wd.call_n he1]; exact hp
 have hr := (R.rel.pr p hp).rqp no hm
 refine Calls_W 53 Try.f15 ?_
 have T0 : Sm Nix h h := .refl
 refine W_seq (W_region ?_)
 have m223 : ¬ (Gh.mut G) h.next ∧ ¬ (Gh.ro G) h.next := ⟨(R.ext T0).op.new (Nat.le_refl _), (R.ext T0).op.newr (Nat.le_refl _)⟩
 refine L_nwc [nv 0, nv 0, nv 0, nv 0] .ptr rfl rfl kr fun h223 c223 t223 n223 => ?_
 have T223 := T0.ext t223
 have N223 := T223.nx
 refine L_g 3 kr (L_nil (W_sg 3 kr (L_c rfl rfl kr (begun_ok (R.ext T223) hp hm hact) ?_)))
 rintro v224 h224 ⟨e224, t224⟩
 try dsimp only at e224
 try dsimp only at t224
 subst e224
 replace c223 := c223.ext t224
 have T224 := T223.ext t224
 have N224 := T224.nx
 have M224 := t224.nx
 refine L_g 5 kr (L_nil (W_seq (W_sg 2 kr (L_nil ?_))))
 refine W_cond false kr (fun e => by cases e) (fun _ => ?_)
 refine W_skip (W_sg 2 kr (L_c rfl rfl kr (call_ok (R.ext T224) hp he1) ?_))
 rintro v225 h225 ⟨e225, N225⟩
 dsimp only at e225 N225
 subst e225
 obtain ⟨S225, C225, ro225, R225, Y225⟩ := N225
 have X225 := ((Gx.refl).trans (Gx.of T224)).trans Y225
 have hr_225 := (Y225.keep _ hr).1
 have m223_225 : ¬ (Gh.mut ⟨Gh.B G, S225, C225, ro225⟩) (h.next) ∧ ¬ (Gh.ro ⟨Gh.B G, S225, C225, ro225⟩) (h.next) := ⟨fun hm => (Y225.mu _ hm).elim m223.1 (fun e => by have := c223.lt; omega), fun hm => (Y225.ron _ hm).elim m223.2 (fun e => by have := c223.lt; omega)⟩
 replace c223 := c223.sm Y225.sm m223.1
 have T225 : Sm (Ow h (⟨Gh.B G, S225, C225, ro225⟩ : Gh)) h225 h225 := .refl
 obtain ⟨dvz, hdz, cz⟩ := R225.rqL (p := p) hp1 hr_225
 replace cz : Arm.Cl h225 (G.B (.rq p no)) [nk (W1.rq p no).no, nv (W1.rq p no).peer, nv (W1.rq p no).ctx, nv (W1.rq p no).tag, nv (W1.rq p no).room, .bool (W1.rq p no).send, .bool (W1.rq p no).sync, .bool (W1.rq p no).pers, .bool (W1.rq p no).act, .bool (W1.rq p no).done, nk (W1.rq p no).parts, nk (W1.rq p no).size, dvz, (⟨G.B, S225, C225, ro225⟩ : Gh).S (.pcs p no), nk (W1.rq p no).gone, (⟨G.B, S225, C225, ro225⟩ : Gh).S (.snt p no), .bool (W1.rq p no).clr, nv (W1.rq p no).st.src, nv (W1.rq p no).st.tag, nv (W1.rq p no).st.size, nv (W1.rq p no).st.err] := cz
 obtain ⟨da, dc, rfl⟩ := hdz.1.form
 refine L_nil (W_seq (W_sg 3 kr (L_ld _ rfl rfl kr (((cz.sm T225 (fun hx => hx.2.1 ⟨.rq p no, hr_225, rfl⟩)).ld (o := 9) kr (by rw [← hdone]; rfl) : aLoad Try.prog 4 ⟨G.B (.rq p no), 9, none⟩ h225 = some (.bool true))) (L_g 1 kr (L_nil ?_)))))
 refine W_cond false kr (fun e => by cases e) (fun _ => ?_)
 refine W_skip (W_sg 3 kr (L_c rfl rfl kr (over_ok (R225.ow T225) hp1 hr_225) ?_))
 rintro v226 h226 N226
 dsimp only at N226
 obtain ⟨S226, C226, ro226, R226, Y226⟩ := N226
 have X226 := ((X225).ow T225).trans Y226
 have hr_226 := (Y226.keep _ hr_225).1
 have m223_225_226 : ¬ (Gh.mut ⟨Gh.B (⟨Gh.B G, S225, C225, ro225⟩ : Gh), S226, C226, ro226⟩) (h.next) ∧ ¬ (Gh.ro ⟨Gh.B (⟨Gh.B G, S225, C225, ro225⟩ : Gh), S226, C226, ro226⟩) (h.next) := ⟨fun hm => (Y226.mu _ hm).elim m223_225.1 (fun e => by have := c223.lt; omega), fun hm => (Y226.ron _ hm).elim m223_225.2 (fun e => by have := c223.lt; omega)⟩
 replace c223 := c223.sm Y226.sm m223_225.1
 have T226 : Sm (Ow h (⟨Gh.B (⟨Gh.B G, S225, C225, ro225⟩ : Gh), S226, C226, ro226⟩ : Gh)) h226 h226 := .refl
 have eo : (W1.over p no).rq p no = { W1.rq p no with act := false } := Wd.over_rq W1 p no
 have hp2 : p < (W1.over p no).n := by rw [Wd.over_n]; exact hp1
 obtain ⟨dvy, hdy, cy⟩ := R226.rqL (p := p) hp2 hr_226
 rw [eo] at hdy cy
 replace cy : Arm.Cl h226 (G.B (.rq p no)) [nk (W1.rq p no).no, nv (W1.rq p no).peer, nv (W1.rq p no).ctx, nv (W1.rq p no).tag, nv (W1.rq p no).room, .bool (W1.rq p no).send, .bool (W1.rq p no).sync, .bool (W1.rq p no).pers, .bool false, .bool (W1.rq p no).done, nk (W1.rq p no).parts, nk (W1.rq p no).size, dvy, (⟨G.B, S226, C226, ro226⟩ : Gh).S (.pcs p no), nk (W1.rq p no).gone, (⟨G.B, S226, C226, ro226⟩ : Gh).S (.snt p no), .bool (W1.rq p no).clr, nv (W1.rq p no).st.src, nv (W1.rq p no).st.tag, nv (W1.rq p no).st.size, nv (W1.rq p no).st.err] := cy
 obtain ⟨ea, ec, rfl⟩ := hdy.1.form
 refine L_nil (W_seq (W_sg 3 kr (L_ld _ rfl rfl kr (((cy.sm T226 (fun hx => hx.2.1 ⟨.rq p no, hr_226, rfl⟩)).ld (o := 5) kr (by rw [← hsd]; rfl) : aLoad Try.prog 4 ⟨G.B (.rq p no), 5, none⟩ h226 = some (.bool true))) (L_nil ?_))))
 refine W_cond true kr (fun _ => ?_) (fun e => by cases e)
 refine W_sg 3 kr (L_ld _ rfl rfl kr ((cy.sm T226 (fun hx => hx.2.1 ⟨.rq p no, hr_226, rfl⟩)).ldS (k := 4) (o := 17) kr (by simp)) ?_)
 obtain ⟨h227, e227, d227, t227, n227⟩ := c223.sA 43 [nv (W1.rq p no).st.src, nv (W1.rq p no).st.tag, nv (W1.rq p no).st.size, nv (W1.rq p no).st.err]
 replace c223 := d227
 have T227 : Sm (Ow h (⟨Gh.B (⟨Gh.B G, S225, C225, ro225⟩ : Gh), S226, C226, ro226⟩ : Gh)) h226 h227 := T226.trans t227 (fun x hx => by have hx : x = h.next := hx; subst hx; first | exact .inr (by omega) | exact .inl ⟨by omega, m223_225_226.1, m223_225_226.2⟩ | exact .inl rfl)
 have N227 := T227.nx
 refine L_st _ rfl rfl rfl kr kr (e227) (L_g 3 kr (L_nil (W_ret ?_)))
 repeat first | with_reducible refine then_ret ?_ | with_reducible refine blk_ret ?_
 refine done_of (.inl rfl) (evR_c4 kr kr kr kr (a := ⟨h.next, 0, none⟩) kr (Cl.allN (n := 4) c223 rfl kr) (u := .slice none 0 0) kr (x := .bool true) kr (y := nv 0) kr) ?_
 exact ⟨rfl, _, _, _, (R226.ow T227), ((X226).ow T227)⟩
theorem test_recv {W : Wd} {G : Gh} {h : AH} {p no : Nat} {W1 : Wd} (R : Rep W G h) (hp : p < W.n) (hm : no ∈ (W.pr p).reqs) (hact : (W.rq p no).act = true) (he1 : W.call p = some W1) (hdone : (W1.rq p no).done = true) (hsd : (W1.rq p no).send = false) (hdl : (W1.rq p no).data.length < big) :
  Arm.Calls Try.prog 15 [ptr (G.B .wd), nv (p : Int), nv (no : Int)] h (fun r => ∃ v, r.1 = .tuple ⟨[.agg ⟨[nv (W1.rq p no).st.src, nv (W1.rq p no).st.tag, nv (W1.rq p no).st.size, nv (W1.rq p no).st.err]⟩, v, .bool true, nv 0]⟩ ∧ Rb r.2 v ((W1.rq p no).data.map bv) ∧ (∀ b, vb v = some b → h.next ≤ b) ∧ Nxt (W1.over p no) G h r.2) := by
 have hp1 : p < W1.n := by rw [Wd.call_n he1]; exact hp
 have hr := (R.rel.pr p hp).rqp no hm
 refine Calls_W 53 Try.f15 ?_
 have T0 : Sm Nix h h := .refl
 refine W_seq (W_region ?_)
 have m228 : ¬ (Gh.mut G) h.next ∧ ¬ (Gh.ro G) h.next := ⟨(R.ext T0).op.new (Nat.le_refl _), (R.ext T0).op.newr (Nat.le_refl _)⟩
 refine L_nwc [nv 0, nv 0, nv 0, nv 0] .ptr rfl rfl kr fun h228 c228 t228 n228 => ?_
 have T228 := T0.ext t228
 have N228 := T228.nx
 refine L_g 3 kr (L_nil (W_sg 3 kr (L_c rfl rfl kr (begun_ok (R.ext T228) hp hm hact) ?_)))
 rintro v229 h229 ⟨e229, t229⟩
 try dsimp only at e229
 try dsimp only at t229
 subst e229
 replace c228 := c228.ext t229
 have T229 := T228.ext t229
 have N229 := T229.nx
 have M229 := t229.nx
 refine L_g 5 kr (L_nil (W_seq (W_sg 2 kr (L_nil ?_))))
 refine W_cond false kr (fun e => by cases e) (fun _ => ?_)
 refine W_skip (W_sg 2 kr (L_c rfl rfl kr (call_ok (R.ext T229) hp he1) ?_))
 rintro v230 h230 ⟨e230, N230⟩
 dsimp only at e230 N230
 subst e230
 obtain ⟨S230, C230, ro230, R230, Y230⟩ := N230
 have X230 := ((Gx.refl).trans (Gx.of T229)).trans Y230
 have hr_230 := (Y230.keep _ hr).1
 have m228_230 : ¬ (Gh.mut ⟨Gh.B G, S230, C230, ro230⟩) (h.next) ∧ ¬ (Gh.ro ⟨Gh.B G, S230, C230, ro230⟩) (h.next) := ⟨fun hm => (Y230.mu _ hm).elim m228.1 (fun e => by have := c228.lt; omega), fun hm => (Y230.ron _ hm).elim m228.2 (fun e => by have := c228.lt; omega)⟩
 replace c228 := c228.sm Y230.sm m228.1
 have T230 : Sm (Ow h (⟨Gh.B G, S230, C230, ro230⟩ : Gh)) h230 h230 := .refl
 obtain ⟨dvz, hdz, cz⟩ := R230.rqL (p := p) hp1 hr_230
 replace cz : Arm.Cl h230 (G.B (.rq p no)) [nk (W1.rq p no).no, nv (W1.rq p no).peer, nv (W1.rq p no).ctx, nv (W1.rq p no).tag, nv (W1.rq p no).room, .bool (W1.rq p no).send, .bool (W1.rq p no).sync, .bool (W1.rq p no).pers, .bool (W1.rq p no).act, .bool (W1.rq p no).done, nk (W1.rq p no).parts, nk (W1.rq p no).size, dvz, (⟨G.B, S230, C230, ro230⟩ : Gh).S (.pcs p no), nk (W1.rq p no).gone, (⟨G.B, S230, C230, ro230⟩ : Gh).S (.snt p no), .bool (W1.rq p no).clr, nv (W1.rq p no).st.src, nv (W1.rq p no).st.tag, nv (W1.rq p no).st.size, nv (W1.rq p no).st.err] := cz
 obtain ⟨da, dc, rfl⟩ := hdz.1.form
 refine L_nil (W_seq (W_sg 3 kr (L_ld _ rfl rfl kr (((cz.sm T230 (fun hx => hx.2.1 ⟨.rq p no, hr_230, rfl⟩)).ld (o := 9) kr (by rw [← hdone]; rfl) : aLoad Try.prog 4 ⟨G.B (.rq p no), 9, none⟩ h230 = some (.bool true))) (L_g 1 kr (L_nil ?_)))))
 refine W_cond false kr (fun e => by cases e) (fun _ => ?_)
 refine W_skip (W_sg 3 kr (L_c rfl rfl kr (over_ok (R230.ow T230) hp1 hr_230) ?_))
 rintro v231 h231 N231
 dsimp only at N231
 obtain ⟨S231, C231, ro231, R231, Y231⟩ := N231
 have X231 := ((X230).ow T230).trans Y231
 have hr_231 := (Y231.keep _ hr_230).1
 have m228_230_231 : ¬ (Gh.mut ⟨Gh.B (⟨Gh.B G, S230, C230, ro230⟩ : Gh), S231, C231, ro231⟩) (h.next) ∧ ¬ (Gh.ro ⟨Gh.B (⟨Gh.B G, S230, C230, ro230⟩ : Gh), S231, C231, ro231⟩) (h.next) := ⟨fun hm => (Y231.mu _ hm).elim m228_230.1 (fun e => by have := c228.lt; omega), fun hm => (Y231.ron _ hm).elim m228_230.2 (fun e => by have := c228.lt; omega)⟩
 replace c228 := c228.sm Y231.sm m228_230.1
 have T231 : Sm (Ow h (⟨Gh.B (⟨Gh.B G, S230, C230, ro230⟩ : Gh), S231, C231, ro231⟩ : Gh)) h231 h231 := .refl
 have eo : (W1.over p no).rq p no = { W1.rq p no with act := false } := Wd.over_rq W1 p no
 have hp2 : p < (W1.over p no).n := by rw [Wd.over_n]; exact hp1
 obtain ⟨dvy, hdy, cy⟩ := R231.rqL (p := p) hp2 hr_231
 rw [eo] at hdy cy
 replace cy : Arm.Cl h231 (G.B (.rq p no)) [nk (W1.rq p no).no, nv (W1.rq p no).peer, nv (W1.rq p no).ctx, nv (W1.rq p no).tag, nv (W1.rq p no).room, .bool (W1.rq p no).send, .bool (W1.rq p no).sync, .bool (W1.rq p no).pers, .bool false, .bool (W1.rq p no).done, nk (W1.rq p no).parts, nk (W1.rq p no).size, dvy, (⟨G.B, S231, C231, ro231⟩ : Gh).S (.pcs p no), nk (W1.rq p no).gone, (⟨G.B, S231, C231, ro231⟩ : Gh).S (.snt p no), .bool (W1.rq p no).clr, nv (W1.rq p no).st.src, nv (W1.rq p no).st.tag, nv (W1.rq p no).st.size, nv (W1.rq p no).st.err] := cy
 obtain ⟨ea, ec, rfl⟩ := hdy.1.form
 refine L_nil (W_seq (W_sg 3 kr (L_ld _ rfl rfl kr (((cy.sm T231 (fun hx => hx.2.1 ⟨.rq p no, hr_231, rfl⟩)).ld (o := 5) kr (by rw [← hsd]; rfl) : aLoad Try.prog 4 ⟨G.B (.rq p no), 5, none⟩ h231 = some (.bool false))) (L_nil ?_))))
 refine W_cond false kr (fun e => by cases e) (fun _ => ?_)
 refine W_skip (W_seq (W_drawn kr (D_e (e := 8) (l := [0,1,2,3,4,5,6,7]) (s' := [0,1,2,3]) kr kr rfl kr Rk_nil (NS_b 3 kr (NS_ld _ rfl rfl kr kr kr ((cy.sm T231 (fun hx => hx.2.1 ⟨.rq p no, hr_231, rfl⟩)).ldS (k := 4) (o := 17) kr (by simp)) (NS_b 3 kr (NS_ld _ rfl rfl kr kr kr ((cy.sm T231 (fun hx => hx.2.1 ⟨.rq p no, hr_231, rfl⟩)).ld (o := 12) kr rfl) (NS_nil (L_c rfl rfl kr (clone_by (hdy.ext3 T231).1 (bv_one _) (by rw [List.length_map]; exact hdl)) ?_)))))))))
 rintro v232 h232 ⟨r232, k232, t232, f232, s232⟩
 dsimp only at r232 k232 t232 f232 s232
 have l6 := c228.lt
 have hne9 : ∀ b, vb v232 = some b → ¬ b = h.next := fun b hb e => by have := (f232 b hb).1; omega
 have hlo9 : ∀ b, vb v232 = some b → h.next ≤ b := fun b hb => Nat.le_trans (((X231).ow T231)).sm.nx (f232 b hb).1
 replace c228 := c228.ext t232
 have T232 : Sm (Ow h (⟨Gh.B (⟨Gh.B G, S230, C230, ro230⟩ : Gh), S231, C231, ro231⟩ : Gh)) h231 h232 := T231.ext t232
 have N232 := T232.nx
 have U232 : Sm (fun c => c = h.next) h232 h232 := .refl
 refine L_nil ⟨rfl, ?_⟩
 refine D_e (e := 9) (l := []) (s' := []) kr kr rfl kr (Rk_1 rfl rfl (Rk_1 rfl rfl (Rk_1 rfl rfl (Rk_ld _ rfl rfl rfl kr ((cy.sm T232 (fun hx => hx.2.1 ⟨.rq p no, hr_231, rfl⟩)).ldS (k := 4) (o := 17) kr (by simp)) kr Rk_nil)))) (NS_nil ?_)
 obtain ⟨h233, e233, d233, t233, n233⟩ := c228.sA 43 [nv (W1.rq p no).st.src, nv (W1.rq p no).st.tag, nv (W1.rq p no).st.size, nv (W1.rq p no).st.err]
 replace c228 := d233
 have T233 : Sm (Ow h (⟨Gh.B (⟨Gh.B G, S230, C230, ro230⟩ : Gh), S231, C231, ro231⟩ : Gh)) h231 h233 := T232.trans t233 (fun x hx => by have hx : x = h.next := hx; subst hx; first | exact .inr (by omega) | exact .inl ⟨by omega, m228_230_231.1, m228_230_231.2⟩ | exact .inl rfl)
 have U233 : Sm (fun c => c = h.next) h232 h233 := U232.trans t233 (fun x hx => by have hx : x = h.next := hx; subst hx; first | exact .inr (by omega) | exact .inl ⟨by omega, m228_230_231.1, m228_230_231.2⟩ | exact .inl rfl)
 have N233 := T233.nx
 have NU233 := U233.nx
 refine L_st _ rfl rfl rfl kr kr (e233) ?_
 refine L_nil ⟨rfl, ?_⟩
 refine D_l (l := [10,11,12]) kr kr Rk_nil (NS_b 3 kr (NS_nil (W_ret ?_)))
 repeat first | with_reducible refine then_ret ?_ | with_reducible refine blk_ret ?_
 refine done_of (.inl rfl) (evR_c4 kr kr kr kr (a := ⟨h.next, 0, none⟩) kr (Cl.allN (n := 4) c228 rfl kr) (u := v232) kr (x := .bool true) kr (y := nv 0) kr) ?_
 exact ⟨v232, rfl, r232.sm U233 (fun b hb => hne9 b hb), hlo9, _, _, _, (R231.ow T233), ((X231).ow T233)⟩
end
end Go.Proofs.Ytmehemeoaplepaa
namespace Go.Proofs.Ytmehemeoaplepaa
noncomputable section
open Go Go.X Go.Arm Go.Mt
theorem look_way {W : Wd} {G : Gh} {h : AH} {a b : Int} (R : Rep W G h) : aLookup Try.prog 73 (.map (some (G.B .ways))) (k2 (a, b)) false h = some (G.S (.way a b)) := by
 obtain ⟨m, hm, hmb, hmC, hmS⟩ := R.ways
 rcases hm.lookup (P := Try.prog) (T := 73) (kt := 96) (el := 97) (z := .slice none 0 0) kr k_way kr (a, b) false with ⟨h1, h2⟩ | ⟨v, y, h1, h2, h3⟩
 · rw [← hmS a b, h1]; exact h2
 · rw [← hmS a b, h1, ← h2]; exact h3
theorem deliver_no {W : Wd} {G : Gh} {h : AH} {a b : Nat} (R : Rep W G h) (ha : a < W.n) (hb : b < W.n) (hw : W.way a b = []) :
  Arm.Calls Try.prog 13 [ptr (G.B .wd), nv (a : Int), nv (b : Int)] h (fun r => r.1 = .tuple ⟨[.bool false, nv 0]⟩ ∧ Sm Nix h r.2) := by
 obtain ⟨csg, hgw, lsg⟩ := R.way (a : Int) (b : Int)
 refine Calls_W 71 Try.f13 ?_
 have T0 : Sm Nix h h := .refl
 refine W_sg 2 kr (L_nil (W_seq (W_sg 3 kr (L_c rfl rfl kr (chan_ok (R.ext T0) ha hb) ?_))))
 rintro v240 h240 ⟨e240, t240⟩
 try dsimp only at e240
 try dsimp only at t240
 subst e240
 have T240 := T0.ext t240
 have N240 := T240.nx
 have M240 := t240.nx
 refine L_g 1 kr (L_nil (W_sg 2 kr (L_nil ?_)))
 refine W_cond false kr (fun e => by cases e) (fun _ => ?_)
 refine W_skip (W_seq (W_region (L_g 3 kr ?_)))
 have m241 : ¬ (Gh.mut G) h240.next ∧ ¬ (Gh.ro G) h240.next := ⟨(R.ext T240).op.new (Nat.le_refl _), (R.ext T240).op.newr (Nat.le_refl _)⟩
 refine L_nwc [nv 0, nv 0] .ptr rfl rfl kr fun h241 c241 t241 n241 => ?_
 have T241 := T240.ext t241
 have N241 := T241.nx
 obtain ⟨h242, e242, d242, t242, n242⟩ := c241.sA 96 [nv (a : Int), nv (b : Int)]
 replace c241 := d242
 have T242 := T241.tr t242
 have N242 := T242.nx
 refine L_st _ rfl rfl rfl kr kr (e242) (L_nil (W_seq (W_seq (W_drawn kr (D_l (l := [0,1,2,3,4,5,6,7]) kr kr Rk_nil (NS_b 3 kr (NS_ld _ rfl rfl kr kr kr ((R.ext T242).wdL.ld (o := 2) kr rfl) (NS_ld _ rfl rfl kr kr kr (Cl.allN (n := 2) c241 rfl kr) (NS_lk _ rfl rfl kr kr kr kr (look_way (a := (a : Int)) (b := (b : Int)) (R.ext T242)) (NS_ln _ rfl rfl kr kr kr ((hgw.ext T242).lenV (T := 97) (el := 99) kr) (NS_i (((W.way a b).length : Int)) (0) (.bool true) rfl rfl kr kr kr kr rfl (by rw [hw]; rfl) ?_)))))))))))
 refine NS_nil ?_
 refine W_cond true kr (fun _ => ?_) (fun e => by cases e)
 refine W_sg 2 kr (L_nil (W_ret ?_))
 repeat first | with_reducible refine then_ret ?_ | with_reducible refine blk_ret ?_
 refine done_of (v := .tuple ⟨[.bool false, nv 0]⟩) (.inl rfl) kr ?_
 exact ⟨rfl, T242⟩
set_option maxHeartbeats 1000000 in
theorem deliver_ok {W : Wd} {G : Gh} {h : AH} {a b : Nat} {x : Pk} {l : List Pk} (R : Rep W G h) (ha : a < W.n) (hb : b < W.n) (hw : W.way a b = x :: l) (hbig : (W.pr b).inb.length < big) :
  Arm.Calls Try.prog 13 [ptr (G.B .wd), nv (a : Int), nv (b : Int)] h (fun r => r.1 = .tuple ⟨[.bool true, nv 0]⟩ ∧ Nxt ((W.setWay a b l).setPr b { W.pr b with inb := (W.pr b).inb ++ [((a : Int), x)] }) G h r.2) := by
 have hbig : (W.pr b).inb.length < 1000000000 := hbig
 obtain ⟨csg, hgw, lsg⟩ := R.way (a : Int) (b : Int)
 obtain ⟨c0, ⟨v0, hv0, rfl⟩, hcl0, hcc0⟩ := lsg.get (i := 0) (x := x) (by rw [hw]; rfl)
 obtain ⟨ty, u, rfl⟩ := hv0.iface
 have hc0 : csg[0 * 1 + 0]? = some (Value.iface ty u) := hcc0 0 (by decide)
 refine Calls_W 71 Try.f13 ?_
 have T0 : Sm Nix h h := .refl
 refine W_sg 2 kr (L_nil (W_seq (W_sg 3 kr (L_c rfl rfl kr (chan_ok (R.ext T0) ha hb) ?_))))
 rintro v243 h243 ⟨e243, t243⟩
 try dsimp only at e243
 try dsimp only at t243
 subst e243
 have T243 := T0.ext t243
 have N243 := T243.nx
 have M243 := t243.nx
 refine L_g 1 kr (L_nil (W_sg 2 kr (L_nil ?_)))
 refine W_cond false kr (fun e => by cases e) (fun _ => ?_)
 refine W_skip (W_seq (W_region (L_g 3 kr ?_)))
 have m244 : ¬ (Gh.mut G) h243.next ∧ ¬ (Gh.ro G) h243.next := ⟨(R.ext T243).op.new (Nat.le_refl _), (R.ext T243).op.newr (Nat.le_refl _)⟩
 refine L_nwc [nv 0, nv 0] .ptr rfl rfl kr fun h244 c244 t244 n244 => ?_
 have T244 := T243.ext t244
 have N244 := T244.nx
 obtain ⟨h245, e245, d245, t245, n245⟩ := c244.sA 96 [nv (a : Int), nv (b : Int)]
 replace c244 := d245
 have T245 := T244.tr t245
 have N245 := T245.nx
 refine L_st _ rfl rfl rfl kr kr (e245) (L_nil (W_seq (W_seq (W_drawn kr (D_l (l := [0,1,2,3,4,5,6,7]) kr kr Rk_nil (NS_b 3 kr (NS_ld _ rfl rfl kr kr kr ((R.ext T245).wdL.ld (o := 2) kr rfl) (NS_ld _ rfl rfl kr kr kr (Cl.allN (n := 2) c244 rfl kr) (NS_lk _ rfl rfl kr kr kr kr (look_way (a := (a : Int)) (b := (b : Int)) (R.ext T245)) (NS_ln _ rfl rfl kr kr kr ((hgw.ext T245).lenV (T := 97) (el := 99) kr) (NS_i (((W.way a b).length : Int)) (0) (.bool false) rfl rfl kr kr kr kr rfl (by rw [hw]; simp; omega) ?_)))))))))))
 refine NS_nil ?_
 refine W_cond false kr (fun e => by cases e) (fun _ => ?_)
 refine W_skip (W_seq (W_drawn kr (D_e (e := 28) (l := [0,1,2,3,4,5,6,7,8,9,10,11,12,13,14,15,16,17,18,19,20,21,22,23,24,25,26,27]) (s' := [0,1,2,3,4,5,6]) kr kr rfl kr Rk_nil (NS_b 3 kr (NS_ld _ rfl rfl kr kr kr ((R.ext T245).wdL.ld (o := 1) kr rfl) (NS_b 1 kr ?_))))))
 obtain ⟨b1, o1, i1, l1, v1⟩ := (R.ext T245).prsAt2 (P := Try.prog) (T := 74) (el := 77) kr kr kr hb
 have lt1 := (R.ext T245).prsL.lt v1
 refine NS_ix _ rfl rfl kr kr kr kr (i1) (NS_ld _ rfl rfl kr kr kr (l1) (NS_b 3 kr (NS_ld _ rfl rfl kr kr kr ((R.ext T245).wdL.ld (o := 1) kr rfl) (NS_b 1 kr (NS_ix _ rfl rfl kr kr kr kr (i1) (NS_ld _ rfl rfl kr kr kr (l1) (NS_b 2 kr (NS_ld _ rfl rfl kr kr kr (((R.ext T245).prL hb).ld (o := 3) kr rfl) (NS_b 4 kr (NS_ld _ rfl rfl kr kr kr ((R.ext T245).wdL.ld (o := 2) kr rfl) (NS_ld _ rfl rfl kr kr kr (Cl.allN (n := 2) c244 rfl kr) ?_)))))))))))
 refine NS_lk _ rfl rfl kr kr kr kr (look_way (a := (a : Int)) (b := (b : Int)) (R.ext T245)) ?_
 obtain ⟨b9, o9, v9, i9, l9⟩ := (hgw.sd.ext T245).at (P := Try.prog) (T := 97) (el := 99) kr kr (show 0 < (W.way a b).length by rw [hw]; simp) .i64
 have lt9 := (hgw.ext T245).lt v9
 refine NS_ix _ rfl rfl kr kr kr kr (i9) (NS_ld _ rfl rfl kr kr kr (ld_cell kr (by have := l9 0 (by decide); rw [this]; exact hc0)) (NS_b 1 kr ?_))
 have m246 : ¬ (Gh.mut G) h245.next ∧ ¬ (Gh.ro G) h245.next := ⟨(R.ext T245).op.new (Nat.le_refl _), (R.ext T245).op.newr (Nat.le_refl _)⟩
 refine NS_nwc [nv (a : Int), .iface ty u] (.sl 1 1) rfl kr rfl rfl kr (Rk_1 rfl rfl (Rk_1 rfl rfl (Rk_1 rfl rfl (Rk_ld _ rfl rfl rfl kr ((R.ext (T245.ext (.push h245 _))).wdL.ld (o := 1) kr rfl) kr (Rk_1 rfl rfl (Rk_1 rfl rfl (Rk_ld _ rfl rfl rfl kr (ldx (l1) (lt1) (.push h245 _)) kr (Rk_1 rfl rfl (Rk_1 rfl rfl (Rk_1 rfl rfl (Rk_ld _ rfl rfl rfl kr ((R.ext (T245.ext (.push h245 _))).wdL.ld (o := 1) kr rfl) kr (Rk_1 rfl rfl (Rk_1 rfl rfl (Rk_ld _ rfl rfl rfl kr (ldx (l1) (lt1) (.push h245 _)) kr (Rk_1 rfl rfl (Rk_1 rfl rfl (Rk_ld _ rfl rfl rfl kr (((R.ext (T245.ext (.push h245 _))).prL hb).ld (o := 3) kr rfl) kr (Rk_1 rfl rfl (Rk_1 rfl rfl (Rk_1 rfl rfl (Rk_1 rfl rfl (Rk_ld _ rfl rfl rfl kr ((R.ext (T245.ext (.push h245 _))).wdL.ld (o := 2) kr rfl) kr (Rk_ld _ rfl rfl rfl kr (Cl.allN (n := 2) (c244.ext (.push h245 _)) rfl kr) kr (Rk_lk _ rfl rfl rfl kr kr (look_way (a := (a : Int)) (b := (b : Int)) (R.ext (T245.ext (.push h245 _)))) kr (Rk_1 rfl rfl (Rk_ld _ rfl rfl rfl kr (ldx (ld_cell kr (by have := l9 0 (by decide); rw [this]; exact hc0)) (lt9) (.push h245 _)) kr (Rk_1 rfl rfl (Rk_1 rfl rfl Rk_nil)))))))))))))))))))))))))))) fun h246 c246 t246 n246 => ?_
 replace c244 := c244.ext t246
 have T246 := T245.ext t246
 have N246 := T246.nx
 refine NS_nil ?_
 obtain ⟨csi, gi, lsi⟩ := (R.ext T246).inb hb
 obtain ⟨v247, h247, e247, g247, t247, f247⟩ := gi.append (P := Try.prog) (sT := 81) (xT := 81) (el := 101) (by_ := 24) (z := (.agg ⟨[.int .i64 0, .nilIface]⟩)) (m := 1) (ds := [nv (a : Int), .iface ty u]) kr kr kr kr kr rfl (by decide) (cl_sdk 2 c246 rfl) (List.all_eq_true.1 rfl) (by omega)
 obtain ⟨va, vc, rfl⟩ := g247.sd.form
 have l9' := c244.lt
 have inbC : G.C (.inb b) ≠ .no := by obtain ⟨cs, e, _⟩ := (R.rel.pr b hb).inb; rw [e]; simp
 have hnw1 : ¬ vb (G.S (.inb b)) = some (G.B .wd) := fun e => R.op.ne (r := .inb b) (r' := .wd) inbC (by rw [R.rel.wd]; simp) (by simp) (vb_vbx e) rfl
 have hnw2 : ∀ x, vb (G.S (.inb b)) = some x → ¬ vb (G.S .prs) = some x := fun x e e2 => R.op.ne (r := .inb b) (r' := .prs) inbC (by rw [R.rel.prs]; simp) (by simp) (vb_vbx e) (vb_vbx e2)
 have mK9 := m244
 have mK5 := m246
 refine L_bi (.slice va ((W.pr b).inb.length + 1) vc) h247 rfl rfl kr (vs := [G.S (.inb b), .slice (some ⟨h245.next, 0, none⟩) 1 1]) kr (bi_append e247) ?_
 replace c244 := c244.sm t247 (by first | exact fun e => mK9.1 ⟨.inb b, inbC, vb_vbx e⟩ | exact fun e => mK5.1 ⟨.inb b, inbC, vb_vbx e⟩)
 have T247 : Sm (fun c => vb (G.S (.inb b)) = some c) h246 h247 := t247
 have N247 := T247.nx
 refine L_nil ⟨rfl, ?_⟩
 refine D_e (e := 31) (l := [29,30]) (s' := []) kr kr rfl kr (Rk_1 rfl rfl (Rk_1 rfl rfl (Rk_1 rfl rfl (Rk_ld _ rfl rfl rfl kr (((R.ext T246).wdL.sm T247 hnw1).ld (o := 1) kr rfl) kr (Rk_1 rfl rfl (Rk_1 rfl rfl (Rk_ld _ rfl rfl rfl kr (ld_sm kr (ld_sm kr l1 t246 lt1 (fun x => x)) T247 (Nat.lt_of_lt_of_le lt1 (t246).nx) (fun e => hnw2 b1 e v1)) kr Rk_nil))))))) (NS_b 2 kr (NS_nil ?_))
 have Rb := R.ext T246
 have hnw : ¬ vb (G.S (.inb b)) = some (G.B (.pr b)) := fun e => Rb.op.ne (r := .inb b) (r' := .pr b) (by obtain ⟨cs, e, _⟩ := (Rb.rel.pr b hb).inb; rw [e]; simp) (by rw [(Rb.rel.pr b hb).pr]; simp) (by simp) (vb_vbx e) rfl
 obtain ⟨h248, e248, d248, t248, n248⟩ := ((Rb.prL hb).sm T247 hnw).store (P := Try.prog) (T := 81) (o := 3) (v := .slice va ((W.pr b).inb.length + 1) vc) kr rfl rfl (by simp [prC])
 have hlen : ((W.pr b).inb ++ [((a : Int), x)]).length = (W.pr b).inb.length + 1 := by simp
 rw [← hlen] at d248
 have hN := Rb.setInb hb (l := (W.pr b).inb ++ [((a : Int), x)]) (lsi.app (Ls.one ⟨_, hv0.mono (R.op.dr (T246).of), rfl⟩ rfl)) (by rw [hlen]; exact g247) T247 (fun c hc => .inl hc) (fun c hc => by rw [hlen] at hc; exact f247 c hc) d248 t248
 obtain ⟨S9, C9, ro9, R9, Y9⟩ := hN
 have X9 := (Gx.of T246).trans Y9
 have l99 := c244.lt
 have mA9 : ¬ (Gh.mut ⟨G.B, S9, C9, ro9⟩) (h243.next) ∧ ¬ ro9 (h243.next) := ⟨fun hm => (Y9.mu _ hm).elim mK9.1 (fun e => by omega), fun hm => (Y9.ron _ hm).elim mK9.2 (fun e => by omega)⟩
 have hpl := R.prLt hb
 refine L_st _ rfl rfl rfl kr kr (e248) ?_
 replace c244 := c244.sn t248
 have T248 : Sm (Ow h ⟨G.B, S9, C9, ro9⟩) h248 h248 := .refl
 refine L_nil ⟨rfl, ?_⟩
 refine D_l (l := []) kr kr Rk_nil (NS_nil (W_seq (W_drawn kr (D_e (e := 12) (l := [0,1,2,3,4,5,6,7,8,9,10,11]) (s' := []) kr kr rfl kr Rk_nil (NS_b 3 kr (NS_ld _ rfl rfl kr kr kr ((R9.ow T248).wdL.ld (o := 2) kr rfl) (NS_ld _ rfl rfl kr kr kr (Cl.allN (n := 2) c244 rfl kr) (NS_b 3 kr (NS_ld _ rfl rfl kr kr kr ((R9.ow T248).wdL.ld (o := 2) kr rfl) (NS_ld _ rfl rfl kr kr kr (Cl.allN (n := 2) c244 rfl kr) (NS_lk _ rfl rfl kr kr kr kr (look_way (a := (a : Int)) (b := (b : Int)) (R9.ow T248)) ?_)))))))))))
 obtain ⟨csw, gw, lsw⟩ := (R9.ow T248).way (a : Int) (b : Int)
 have gw : Gr h248 1 (S9 (.way (a : Int) (b : Int))) (W.way a b).length csw := gw
 have lsw : Ls (RPk h248 ro9) 1 (W.way a b) csw := lsw
 rw [hw] at gw lsw
 obtain ⟨vt, et, gt, bt⟩ := gw.tailK (P := Try.prog) (T := 97) (el := 99) kr kr
 obtain ⟨cw, _, hcl9, _, lst⟩ := lsw.tail
 refine NS_sl _ rfl rfl kr kr kr kr kr kr (et) (NS_nil ?_)
 obtain ⟨m9, hm9, hmb9, hmC9, hmN9, hmS9⟩ := (R9.ow T248).waysN
 obtain ⟨h249, e249, mp249, t249, n249⟩ := hm9.update (P := Try.prog) (T := 73) (el := 97) kr k_way ((a : Int), (b : Int)) (v := vt) (y := vt) rfl
 have N249 : Nxt ((W.setPr b { W.pr b with inb := (W.pr b).inb ++ [((a : Int), x)] }).setWay a b l) (⟨G.B, S9, C9, ro9⟩ : Gh) h248 h249 := (R9.ow T248).setWay a b (l := l) (v := vt) (kset_nodup hmN9 _ _) (hw_kset (G := (⟨G.B, S9, C9, ro9⟩ : Gh)) hmS9) lst gt Sm.refl (fun c hc => (show False from hc).elim) (fun c hc => .inl (bt ▸ hc)) mp249 (hmb9.update e249) t249
 refine L_mu _ rfl rfl rfl kr kr kr e249 ?_
 obtain ⟨S249, C249, ro249, R249, Y249⟩ := N249
 have X249 := ((X9).ow T248).trans Y249
 have mA9_249 : ¬ (Gh.mut ⟨Gh.B (⟨G.B, S9, C9, ro9⟩ : Gh), S249, C249, ro249⟩) (h243.next) ∧ ¬ (Gh.ro ⟨Gh.B (⟨G.B, S9, C9, ro9⟩ : Gh), S249, C249, ro249⟩) (h243.next) := ⟨fun hm => (Y249.mu _ hm).elim mA9.1 (fun e => by have := c244.lt; omega), fun hm => (Y249.ron _ hm).elim mA9.2 (fun e => by have := c244.lt; omega)⟩
 have T249 : Sm (Ow h (⟨Gh.B (⟨G.B, S9, C9, ro9⟩ : Gh), S249, C249, ro249⟩ : Gh)) h249 h249 := .refl
 refine L_nil ⟨rfl, ?_⟩
 refine D_l (l := []) kr kr Rk_nil (NS_nil (W_sg 2 kr (L_nil (W_ret ?_))))
 repeat first | with_reducible refine then_ret ?_ | with_reducible refine blk_ret ?_
 refine done_of (v := .tuple ⟨[.bool true, nv 0]⟩) (.inl rfl) kr ?_
 have ew : (W.setPr b { W.pr b with inb := (W.pr b).inb ++ [((a : Int), x)] }).setWay (a : Int) (b : Int) l = (W.setWay (a : Int) (b : Int) l).setPr b { W.pr b with inb := (W.pr b).inb ++ [((a : Int), x)] } := rfl
 exact ⟨rfl, _, _, _, ew ▸ (R249.ow T249), ((X249).ow T249)⟩
end
end Go.Proofs.Ytmehemeoaplepaa
namespace Go.Proofs.Ytmehemeoaplepaa
noncomputable section
open Go Go.X Go.Arm Go.Mt
theorem gt_nat (n : Nat) : Value.bool (decide ((0 : Int) < (n : Int))) = Value.bool (decide (0 < n)) := by
 congr 1; by_cases h : 0 < n <;> simp [h]
theorem kget_memk {κ β : Type} [DecidableEq κ] {l : List (κ × β)} {k : κ} {n : β} (h : kget l k = some n) : ∃ x, x ∈ l ∧ x.1 = k := by
 induction l with
 | nil => cases h
 | cons y l ih =>
  unfold kget at h
  split at h
  · rename_i e; exact ⟨y, List.mem_cons.2 (.inl rfl), e⟩
  · obtain ⟨x, h1, h2⟩ := ih h; exact ⟨x, List.mem_cons_of_mem _ h1, h2⟩
theorem quiet_iff {W : Wd} (hw : ∀ a b, W.way a b = []) : (!((List.range W.n).findIdx? (fun p => decide (0 < (W.pr p).inb.length))).isSome) = true ↔ W.quiet := by
 cases hf : (List.range W.n).findIdx? (fun p => decide (0 < (W.pr p).inb.length)) with
 | none =>
  refine ⟨fun _ => ⟨hw, fun p hp => ?_⟩, fun _ => rfl⟩
  have := List.findIdx?_eq_none_iff.1 hf p (List.mem_range.2 hp)
  have h0 : ¬ 0 < (W.pr p).inb.length := by simpa using this
  exact List.length_eq_zero_iff.1 (by omega)
 | some i =>
  refine ⟨(fun h => by cases h), fun hq => ?_⟩
  rw [List.findIdx?_eq_some_iff_getElem] at hf
  obtain ⟨h1, h2, _⟩ := hf
  simp at h1 h2
  have := hq.2 i h1
  rw [this] at h2; simp at h2
theorem ixf_pr {h : AH} {s : Value} {g : FuncId} {cs : List Value} {α : Type} {l : List α} {pr : α → Bool} (H : Sd h 1 s l.length cs) (hl : l.length < big) (hg : ∀ vs h, aCallX Try.prog g vs h = some [(.enter g vs, h)])
  (hc : ∀ (i : Nat) x, l[i]? = some x → ∃ v, cs[i]? = some v ∧ ∀ h', Sm Nix h h' → Arm.Calls Try.prog g [v] h' (fun r => r.1 = .bool (pr x) ∧ Sm Nix h' r.2)) :
  Arm.Calls Try.prog 58 [s, .func (.func g) ⟨[]⟩ ⟨[]⟩] h (fun r => r.1 = nv (match l.findIdx? pr with | some i => (i : Int) | none => -1) ∧ Sm Nix h r.2) := by
 have hl : l.length < 1000000000 := hl
 refine Calls_W 19 Try.f58 ?_
 have T0 : Sm Nix h h := .refl
 refine W_sg 1 kr (L_nil (W_seq (W_sg 1 kr (L_ln _ rfl rfl kr ((H.ext T0).len (T := 74) (el := 77) kr) (L_g 1 kr (L_nil (W_block ?_)))))))
 refine W_loop (fun mm fr hh => ∃ (k : Nat), (k ≤ l.length) ∧ (l.findIdx? pr = ((l.drop k).findIdx? pr).map (· + k)) ∧ mm = l.length - k ∧ fr 0 = s ∧ fr 1 = .func (.func g) ⟨[]⟩ ⟨[]⟩ ∧ fr 7 = nv (l.length : Int) ∧ fr 8 = nv (k : Int) ∧ Sm Nix h hh) (l.length) ?_ ?_
 ·
  exact ⟨0, Nat.zero_le _, by simp, rfl, kr, kr, kr, kr, T0⟩
 rintro mm257 fr257 h257 ⟨k, hk, hf, hm257, y257_0, y257_1, y257_7, y257_8, T257⟩
 have N257 := T257.nx
 refine W_set (k := 0) y257_0 (W_set (k := 1) y257_1 (W_set (k := 7) y257_7 (W_set (k := 8) y257_8 (W_sg 1 kr (L_nil (W_seq ?_))))))
 refine W_cond (decide ((k : Int) < (l.length : Nat))) kr (fun hb => ?_) (fun hb => ?_)
 ·
  have hlt : k < l.length := by simp at hb; omega
  obtain ⟨x, hx⟩ : ∃ x, l[k]? = some x := ⟨_, List.getElem?_eq_getElem hlt⟩
  have hdr : l.drop k = x :: l.drop (k + 1) := by rw [List.drop_eq_getElem_cons hlt]; congr 1; exact (List.getElem?_eq_some_iff.1 hx).2
  obtain ⟨v, hv, hcall⟩ := hc k x hx
  obtain ⟨b9, o9, _, i9, l9⟩ := (H.ext T257).at (P := Try.prog) (T := 74) (el := 77) kr kr hlt .i64
  refine W_skip (W_seq (W_block (W_sg 2 kr (L_nil (W_sg 3 kr (L_ix _ rfl rfl kr kr (i9) (L_ld _ rfl rfl kr (ld_cell kr (by have := l9 0 (by decide); rw [Nat.add_zero, Nat.mul_one, Nat.add_zero] at this; rw [this]; exact hv)) ?_)))))))
  refine L_c rfl rfl (Eq.trans (b := aCallX Try.prog g [v] h257) kr (hg _ _)) (hcall _ T257) ?_
  rintro v258 h258 ⟨e258, t258⟩
  try dsimp only at e258
  try dsimp only at t258
  subst e258
  have T258 := T257.ext t258
  have N258 := T258.nx
  have M258 := t258.nx
  refine L_nil ?_
  refine W_cond (pr x) kr (fun hb => ?_) (fun hb => ?_)
  ·
   have hres : nv (match l.findIdx? pr with | some i => (i : Int) | none => -1) = nv (k : Int) := by rw [hf, hdr, List.findIdx?_cons, hb]; simp
   rw [hres]
   refine W_sg 2 kr (L_nil (W_ret ?_))
   repeat first | with_reducible refine then_ret ?_ | with_reducible refine blk_ret ?_
   refine done_of (v := nv (k : Int)) (.inl rfl) kr ?_
   exact ⟨rfl, T258⟩
  ·
   have hfb : pr x = false := hb
   refine W_skip (W_region (L_i ((k : Int)) (1) (nv ((k + 1 : Nat) : Int)) rfl rfl kr kr rfl (inc_ok (by omega)) (L_g 1 kr (L_nil ?_))))
   exact ⟨l.length - (k + 1), by omega, k + 1, by omega, find_step hf hdr hfb, rfl, kr, kr, kr, kr, T258⟩
 ·
  have hge : k = l.length := by simp at hb; omega
  have hres : nv (match l.findIdx? pr with | some i => (i : Int) | none => -1) = nv (-1) := by rw [hf, hge]; simp
  rw [hres]
  refine W_exit ?_
  repeat with_reducible refine then_exit ?_
  refine exit_here (W_sg 1 kr (L_nil (W_ret ?_)))
  repeat first | with_reducible refine then_ret ?_ | with_reducible refine blk_ret ?_
  refine done_of (v := nv (-1)) (.inl rfl) kr ?_
  exact ⟨rfl, T257⟩
theorem quiet1_ok {W : Wd} {G : Gh} {h : AH} {p : Nat} (R : Rep W G h) (hp : p < W.n) :
  Arm.Calls Try.prog 49 [ptr (G.B (.pr p))] h (fun r => r.1 = .bool (decide (0 < (W.pr p).inb.length)) ∧ Sm Nix h r.2) := by
 obtain ⟨cs, g0, ls⟩ := R.inb hp
 refine Calls_W 9 Try.f49 ?_
 have T0 : Sm Nix h h := .refl
 refine W_sg 1 kr (L_nil (W_sg 3 kr (L_ld _ rfl rfl kr (((R.ext T0).prL hp).ld (o := 3) kr rfl) (L_ln _ rfl rfl kr ((g0.ext T0).lenV (T := 81) (el := 101) kr) (L_i (((W.pr p).inb.length : Int)) (0) (.bool (decide (0 < (W.pr p).inb.length))) rfl rfl kr kr rfl (gt_nat _) (L_g 1 kr (L_nil ?_)))))))
 refine W_ret ?_
 repeat first | with_reducible refine then_ret ?_ | with_reducible refine blk_ret ?_
 refine done_of (v := .bool (decide (0 < (W.pr p).inb.length))) (.inl rfl) kr ?_
 exact ⟨rfl, T0⟩
theorem qcf_ok {W : Wd} {G : Gh} {h : AH} (R : Rep W G h) (hn : W.n < big) :
  Arm.Calls Try.prog 48 [G.S .prs, .func (.func 49) ⟨[]⟩ ⟨[]⟩] h (fun r => r.1 = .bool ((List.range W.n).findIdx? (fun p => decide (0 < (W.pr p).inb.length))).isSome ∧ Sm Nix h r.2) := by
 have hix := ixf_pr (pr := fun p => decide (0 < (W.pr p).inb.length)) (l := List.range W.n) (by rw [List.length_range]; exact R.prsL) (by rw [List.length_range]; exact hn) (g := 49) (fun _ _ => rfl) (fun i x hx => by
  obtain ⟨hl, e⟩ := List.getElem?_eq_some_iff.1 hx
  simp at hl e; subst e
  exact ⟨_, by rw [List.getElem?_map, List.getElem?_range hl]; rfl, fun h' t => quiet1_ok (R.ext t) hl⟩)
 cases hf : (List.range W.n).findIdx? (fun p => decide (0 < (W.pr p).inb.length)) with
 | none =>
  rw [hf] at hix
  refine Calls_W 9 Try.f48 ?_
  have T0 : Sm Nix h h := .refl
  refine W_sg 1 kr (L_nil (W_sg 2 kr (L_c rfl rfl kr (hix) ?_)))
  rintro v250 h250 ⟨e250, t250⟩
  try dsimp only at e250
  try dsimp only at t250
  subst e250
  have T250 := T0.ext t250
  have N250 := T250.nx
  have M250 := t250.nx
  refine L_i (-1) (0) (.bool false) rfl rfl kr kr rfl (by first | (simp; done) | (simp; omega)) (L_g 1 kr (L_nil (W_ret ?_)))
  repeat first | with_reducible refine then_ret ?_ | with_reducible refine blk_ret ?_
  refine done_of (v := .bool false) (.inl rfl) kr ?_
  exact ⟨rfl, T250⟩
 | some i =>
  rw [hf] at hix
  refine Calls_W 9 Try.f48 ?_
  have T0 : Sm Nix h h := .refl
  refine W_sg 1 kr (L_nil (W_sg 2 kr (L_c rfl rfl kr (hix) ?_)))
  rintro v251 h251 ⟨e251, t251⟩
  try dsimp only at e251
  try dsimp only at t251
  subst e251
  have T251 := T0.ext t251
  have N251 := T251.nx
  have M251 := t251.nx
  refine L_i ((i : Int)) (0) (.bool true) rfl rfl kr kr rfl (by first | (simp; done) | (simp; omega)) (L_g 1 kr (L_nil (W_ret ?_)))
  repeat first | with_reducible refine then_ret ?_ | with_reducible refine blk_ret ?_
  refine done_of (v := .bool true) (.inl rfl) kr ?_
  exact ⟨rfl, T251⟩
theorem quiet_ok {W : Wd} {G : Gh} {h : AH} (R : Rep W G h) (hn : W.n < big) :
  Arm.Calls Try.prog 28 [ptr (G.B .wd)] h (fun r => ∃ b, r.1 = .bool b ∧ (b = true ↔ W.quiet) ∧ Sm Nix h r.2) := by
 obtain ⟨m, hm, hmb, hmC, hmN, hmS⟩ := R.waysN
 have hwl := R.waysLt
 refine Calls_W 26 Try.f28 ?_
 have T0 : Sm Nix h h := .refl
 refine W_sg 1 kr (L_nil (W_seq (W_sg 1 kr (L_c rfl rfl kr (valid_ok (R.ext T0)) ?_))))
 rintro v252 h252 ⟨e252, t252⟩
 try dsimp only at e252
 try dsimp only at t252
 subst e252
 have T252 := T0.ext t252
 have N252 := T252.nx
 have M252 := t252.nx
 refine L_g 1 kr (L_nil ?_)
 refine W_cond false kr (fun e => by cases e) (fun _ => ?_)
 refine W_skip (W_seq (W_sg 3 kr (L_ld _ rfl rfl kr ((R.ext T252).wdL.ld (o := 2) kr rfl) ?_)))
 obtain ⟨h253, e253, ⟨c0, hI0⟩, t253, n253⟩ := Itr.start (P := Try.prog) (T := 73) (kt := 96) (el := 97) kr (hm.sm T252 (fun x => x) (fun _ _ e => e)) (hmb.sm T252 hm.1 (fun x => x))
 refine L_rg _ rfl rfl kr e253 ?_
 have T253 := T252.ext t253
 have N253 := T253.nx
 refine L_nil (W_block ?_)
 refine W_loop (fun mm fr hh => ∃ dn : Nat → Prop, Itr hh h252.next (G.B .ways) k2 Eq m dn mm ∧ Sm Nix h hh ∧ (∀ i x, m[i]? = some x → dn i → W.way x.1.1 x.1.2 = []) ∧ fr 0 = ptr (G.B .wd) ∧ fr 12 = .pointer (some ⟨h252.next, 0, none⟩)) (c0) ?_ ?_
 ·
  exact ⟨_, hI0, T253, fun i x _ hd => hd.elim, kr, kr⟩
 clear hI0
 rintro mm fr hh ⟨dn, hI, TL, hdn, y0, y12⟩
 refine W_set (k := 0) y0 (W_set (k := 12) y12 ?_)
 have NL := TL.nx
 refine W_seq (W_region ?_)
 refine L_nx rfl rfl kr hI (fun hall => ?_) (fun ie e vnx cnx hnx hie hndn hRv hcl hInx tnx nnx henx => ?_)
 ·
  have hway : ∀ a b, W.way a b = [] := by
   intro a b
   cases hk : kget m (a, b) with
   | none =>
    obtain ⟨csw, gw, _⟩ := R.way a b
    have hs := hmS a b
    rw [hk] at hs
    rw [← hs] at gw
    obtain ⟨a', c', e'⟩ := gw.sd.form
    have e' : Value.slice none 0 0 = Value.slice a' (W.way a b).length c' := e'
    cases hw : W.way a b with
    | nil => rfl
    | cons y l => rw [hw] at e'; cases e'
   | some v =>
    obtain ⟨x, hx, hxv⟩ := kget_memk hk
    obtain ⟨i, hi, hie⟩ := List.getElem_of_mem hx
    have := hdn i x (by rw [List.getElem?_eq_getElem hi, hie]) (hall i hi)
    rw [hxv] at this; exact this
  refine L_g 1 kr (L_nil (W_seq ?_))
  refine W_cond false kr (fun e => by cases e) (fun _ => ?_)
  refine W_exit ?_
  repeat with_reducible refine then_exit ?_
  refine exit_here (W_sg 3 kr (L_ld _ rfl rfl kr ((R.ext TL).wdL.ld (o := 1) kr rfl) (L_c rfl rfl kr (qcf_ok (R.ext TL) hn) ?_)))
  rintro v255 h255 ⟨e255, t255⟩
  try dsimp only at e255
  try dsimp only at t255
  subst e255
  have T255 := TL.ext t255
  have N255 := T255.nx
  have M255 := t255.nx
  refine L_g 2 kr (L_nil (W_ret ?_))
  repeat first | with_reducible refine then_ret ?_ | with_reducible refine blk_ret ?_
  refine done_of (v := .bool (!((List.range W.n).findIdx? (fun p => decide (0 < (W.pr p).inb.length))).isSome)) (.inl rfl) kr ?_
  exact ⟨_, rfl, quiet_iff hway, T255⟩
 ·
  have Tnx : Sm Nix h hnx := TL.trans tnx (fun b hb => .inr (by have hb : b = h252.next := hb; omega))
  have Nnx := Tnx.nx
  have hge := kget_nodup hmN (List.mem_of_getElem? hie)
  have hse := hmS e.1.1 e.1.2
  rw [hge] at hse
  obtain ⟨csw, gw, _⟩ := R.way e.1.1 e.1.2
  rw [← hse, show (some e.2).getD nilS = vnx from hRv.symm] at gw
  refine L_g 1 kr (L_nil (W_seq ?_))
  refine W_cond true kr (fun _ => ?_) (fun e => by cases e)
  refine W_skip (W_block (W_seq (W_region (L_p (.tuple ⟨[k2 e.1, vnx]⟩) rfl (by exact henx) (L_g 2 kr (L_nil (W_seq ?_)))))))
  by_cases hemp : W.way e.1.1 e.1.2 = []
  ·
   refine W_rg 1 kr (L_ln _ rfl rfl kr ((gw.ext Tnx).lenV (T := 97) (el := 99) kr) (L_i (((W.way e.1.1 e.1.2).length : Int)) (0) (.bool false) rfl rfl kr kr rfl (by rw [hemp]; rfl) (L_nil ?_)))
   refine W_cond false kr (fun e => by cases e) (fun _ => ?_)
   refine W_skip ?_
   exact ⟨cnx, hcl, _, hInx, Tnx, fun i x hx hd => by
    rcases hd with rfl | hd
    · rw [hx] at hie; cases hie; exact hemp
    · exact hdn i x hx hd, kr, kr⟩
  ·
   refine W_rg 1 kr (L_ln _ rfl rfl kr ((gw.ext Tnx).lenV (T := 97) (el := 99) kr) (L_i (((W.way e.1.1 e.1.2).length : Int)) (0) (.bool true) rfl rfl kr kr rfl (by have := List.length_pos_iff.2 hemp; simp; omega) (L_nil ?_)))
   refine W_cond true kr (fun _ => ?_) (fun e => by cases e)
   refine W_sg 1 kr (L_nil (W_ret ?_))
   repeat first | with_reducible refine then_ret ?_ | with_reducible refine blk_ret ?_
   refine done_of (v := .bool false) (.inl rfl) kr ?_
   exact ⟨_, rfl, ⟨(fun e9 => by cases e9), fun hq => (hemp (hq.1 _ _)).elim⟩, Tnx⟩
end
end Go.Proofs.Ytmehemeoaplepaa
namespace Go.Proofs.Ytmehemeoaplepaa
noncomputable section
open Go Go.X Go.Arm Go.Mt
theorem bi_copy {P : Program} {T U : TypeId} {d s v : Value} {h h' : AH} (e : aCopy P T d s h = some (v, h')) : aBuiltin P .copy [T, U] [d, s] h = some [(.val v, h')] := by
 show ovh (aCopy P T d s h) = _
 rw [e]; rfl
theorem add_nat {a b : Nat} (h : a + b < 1000000000) : Value.int .i64 (IntKind.i64.wrap ((a : Int) + (b : Int))) = nv ((a + b : Nat) : Int) := by
 have : IntKind.i64.wrap ((a : Int) + (b : Int)) = ((a + b : Nat) : Int) := by rw [IntKind.wrap_i64]; omega
 rw [this]; rfl
theorem mul64_ok {h : AH} {n : Nat} (hn : n = 1 ∨ n = 2 ∨ n = 3 ∨ n = 4 ∨ n = 5 ∨ n = 6 ∨ n = 7 ∨ n = 8) :
  Arm.Calls Try.prog 60 [.int .u64 1, .int .u64 (n : Int)] h (fun r => r.1 = .tuple ⟨[.int .u64 0, .int .u64 (n : Int)]⟩ ∧ Sm Nix h r.2) := by
 rcases hn with rfl | rfl | rfl | rfl | rfl | rfl | rfl | rfl
 all_goals
  refine Calls_W 51 Try.f60 ?_
  have T0 : Sm Nix h h := .refl
  refine W_sg 2 kr (L_nil (W_sg 3 kr (L_nil (W_sg 3 kr (L_nil ?_)))))
  refine W_sg 3 kr (L_nil (W_sg 3 kr (L_nil (W_sg 4 kr (L_nil ?_)))))
  refine W_sg 7 kr (L_nil (W_sg 3 kr (L_nil (W_sg 3 kr (L_nil ?_)))))
  refine W_sg 6 kr (L_nil (W_sg 9 kr (L_nil (W_sg 4 kr (L_nil ?_)))))
  refine W_ret ?_
  repeat first | with_reducible refine then_ret ?_ | with_reducible refine blk_ret ?_
  first
   | (refine done_of (v := .tuple ⟨[.int .u64 0, .int .u64 ((1 : Nat) : Int)]⟩) (.inl rfl) kr ?_; exact ⟨rfl, T0⟩)
   | (refine done_of (v := .tuple ⟨[.int .u64 0, .int .u64 ((2 : Nat) : Int)]⟩) (.inl rfl) kr ?_; exact ⟨rfl, T0⟩)
   | (refine done_of (v := .tuple ⟨[.int .u64 0, .int .u64 ((3 : Nat) : Int)]⟩) (.inl rfl) kr ?_; exact ⟨rfl, T0⟩)
   | (refine done_of (v := .tuple ⟨[.int .u64 0, .int .u64 ((4 : Nat) : Int)]⟩) (.inl rfl) kr ?_; exact ⟨rfl, T0⟩)
   | (refine done_of (v := .tuple ⟨[.int .u64 0, .int .u64 ((5 : Nat) : Int)]⟩) (.inl rfl) kr ?_; exact ⟨rfl, T0⟩)
   | (refine done_of (v := .tuple ⟨[.int .u64 0, .int .u64 ((6 : Nat) : Int)]⟩) (.inl rfl) kr ?_; exact ⟨rfl, T0⟩)
   | (refine done_of (v := .tuple ⟨[.int .u64 0, .int .u64 ((7 : Nat) : Int)]⟩) (.inl rfl) kr ?_; exact ⟨rfl, T0⟩)
   | (refine done_of (v := .tuple ⟨[.int .u64 0, .int .u64 ((8 : Nat) : Int)]⟩) (.inl rfl) kr ?_; exact ⟨rfl, T0⟩)
theorem mul_ok {h : AH} {n : Nat} (hn : n = 1 ∨ n = 2 ∨ n = 3 ∨ n = 4 ∨ n = 5 ∨ n = 6 ∨ n = 7 ∨ n = 8) :
  Arm.Calls Try.prog 50 [.int .u64 1, .int .u64 (n : Int)] h (fun r => r.1 = .tuple ⟨[.int .u64 0, .int .u64 (n : Int)]⟩ ∧ Sm Nix h r.2) := by
 refine Calls_W 30 Try.f50 ?_
 have T0 : Sm Nix h h := .refl
 refine W_sg 2 kr (L_nil (W_seq ?_))
 refine W_cond false kr (fun e => by cases e) (fun _ => ?_)
 refine W_skip (W_sg 2 kr (L_c rfl rfl kr (mul64_ok hn) ?_))
 rintro v259 h259 ⟨e259, t259⟩
 try dsimp only at e259
 try dsimp only at t259
 subst e259
 have T259 := T0.ext t259
 have N259 := T259.nx
 have M259 := t259.nx
 refine L_g 5 kr (L_nil (W_sg 4 kr (L_nil (W_ret ?_))))
 repeat first | with_reducible refine then_ret ?_ | with_reducible refine blk_ret ?_
 refine done_of (v := .tuple ⟨[.int .u64 0, .int .u64 (n : Int)]⟩) (.inl rfl) kr ?_
 exact ⟨rfl, T259⟩
theorem repeat_ok {h : AH} {n b0 : Nat} {c : Int} (hc0 : Arm.Cl h b0 [nv c]) (hn : n = 1 ∨ n = 2 ∨ n = 3 ∨ n = 4 ∨ n = 5 ∨ n = 6 ∨ n = 7 ∨ n = 8) :
  Arm.Calls Try.prog 29 [.slice (some ⟨b0, 0, none⟩) 1 1, nv (n : Int)] h (fun r => ∃ bb, h.next ≤ bb ∧ Arm.Cl r.2 bb (List.replicate n (nv c)) ∧ r.1 = .slice (some ⟨bb, 0, none⟩) n n ∧ Sm Nix h r.2) := by
 have hn0 : 0 < n := by omega
 have hn9 : n < 9 := by omega
 have hop : n < open_ := Nat.lt_trans hn9 (by decide)
 have hbl := hc0.lt
 refine Calls_W 48 Try.f29 ?_
 have T0 : Sm Nix h h := .refl
 refine W_sg 1 kr (L_nil (W_seq (W_sg 1 kr (L_i ((n : Int)) (0) (.bool false) rfl rfl kr kr rfl (by first | (simp; done) | (simp; omega)) (L_nil ?_)))))
 refine W_cond false kr (fun e => by cases e) (fun _ => ?_)
 refine W_skip (W_sg 4 kr (L_p (.int .u64 (n : Int)) rfl (by rcases hn with rfl | rfl | rfl | rfl | rfl | rfl | rfl | rfl <;> kernel_rfl) (L_c rfl rfl kr (mul_ok hn) ?_)))
 rintro v260 h260 ⟨e260, t260⟩
 try dsimp only at e260
 try dsimp only at t260
 subst e260
 have T260 := T0.ext t260
 have N260 := T260.nx
 have M260 := t260.nx
 refine L_g 5 kr (L_nil (W_seq (W_sg 4 kr (L_want kr (L_p (.bool false) rfl (by rcases hn with rfl | rfl | rfl | rfl | rfl | rfl | rfl | rfl <;> kernel_rfl) (L_g 1 kr (L_nil ?_)))))))
 refine W_cond false kr (fun e => by cases e) (fun _ => ?_)
 refine W_skip (W_sg 1 kr (L_p (nv (n : Int)) rfl (by rcases hn with rfl | rfl | rfl | rfl | rfl | rfl | rfl | rfl <;> kernel_rfl) (L_nwc (zrep n [nv 0]) (.sl n n) rfl rfl (ev_mkK (P := Try.prog) (k := 1) (el := 3) (z := nv 0) (by_ := 8) kr kr kr kr rfl (by omega) kr kr) fun h261 c261 t261 n261 => ?_)))
 have T261 := T260.ext t261
 have N261 := T261.nx
 rw [zrep_row] at c261
 have hN30 : h.next ≤ h260.next := T260.nx
 refine L_g 1 kr (L_nil (W_seq (W_region (L_g 2 kr ?_))))
 obtain ⟨h262, e262, d262, t262, n262⟩ := copy_row (P := Try.prog) (T := 29) (el := 3) (x := nv c) (y := nv 0) (k := 0) (o := 0) (m := 1) (s := 1) (u := .slice (some ⟨b0, 0, none⟩) 1 1) kr kr c261 (Nat.zero_le _) rfl rfl (by rw [Nat.min_eq_left (by omega)]; exact ((hc0.ext T261).sd (n := 1) rfl).first) (by omega) (Nat.le_refl _) hn0 (by decide) (by omega) (by omega : n ≠ 0)
 refine L_bi (nv (1 : Nat)) h262 rfl rfl kr (vs := [.slice (some ⟨h260.next, 0, none⟩) n n, .slice (some ⟨b0, 0, none⟩) 1 1]) kr (bi_copy e262) ?_
 replace c261 := c261.lt
 have T262 : Sm Nix h h262 := T261.trans t262 (fun x hx => .inr (by have hx : x = _ := hx; omega))
 have N262 := T262.nx
 refine L_g 1 kr (L_nil (W_seq (W_block ?_)))
 refine W_loop (fun mm fr hh => ∃ k : Nat, mm = n - k ∧ 1 ≤ k ∧ k ≤ n ∧ Arm.Cl hh h260.next (row2 (nv c) (nv 0) k n) ∧ Sm Nix h hh ∧ fr 7 = .slice (some ⟨h260.next, 0, none⟩) n n ∧ fr 8 = nv (k : Int)) (n - 1) ?_ ?_
 ·
  exact ⟨1, rfl, Nat.le_refl _, hn0, d262, T262, kr, kr⟩
 rintro mm fr hh ⟨k, hm, hk1, hkn, hcr, TL, y7, y8⟩
 refine W_set (k := 7) y7 (W_set (k := 8) y8 (W_seq (W_sg 3 kr (L_i ((k : Int)) ((n : Int)) (.bool (decide ((k : Int) < (n : Int)))) rfl rfl kr kr rfl (rfl) (L_nil ?_)))))
 refine W_cond (decide ((k : Int) < (n : Int))) kr (fun hb => ?_) (fun hb => ?_)
 ·
  have hlt : k < n := by simp at hb; omega
  refine W_skip (W_block (W_drawn kr (D_e (e := 7) (l := [0,1,2,3,4,5,6]) (s' := [0]) kr kr rfl kr Rk_nil (NS_b 3 kr (NS_sl _ rfl rfl kr kr kr kr kr kr (slk_lo (b := h260.next) (P := Try.prog) (T := 29) (el := 3) kr kr hlt hop) (NS_b 2 kr (NS_sl _ rfl rfl kr kr kr kr kr kr (slk_hi (b := h260.next) (P := Try.prog) (T := 29) (el := 3) kr kr hkn hn0 hop) (NS_nil ?_))))))))
  obtain ⟨h263, e263, hcq, t263, n263⟩ := copy_row (P := Try.prog) (T := 29) (el := 3) (x := nv c) (y := nv 0) (k := k) (o := k) (m := min k (n - k)) (s := k) (u := .slice (some ⟨h260.next, 0, none⟩) k n) kr kr hcr hkn rfl rfl (first_row hcr hkn (Nat.min_le_left _ _) (by omega)) rfl (Nat.le_refl _) hlt hk1 (by omega) (by omega : n - k ≠ 0)
  have TQ : Sm Nix h h263 := TL.trans t263 (fun x hx => .inr (by have hx : x = _ := hx; omega))
  refine L_bi (nv ((min k (n - k) : Nat) : Int)) h263 rfl rfl kr (vs := [.slice (some ⟨h260.next, k, none⟩) (n - k) (n - k), .slice (some ⟨h260.next, 0, none⟩) k n]) kr (bi_copy e263) ?_
  have T263 : Sm Nix h h263 := TQ
  have N263 := T263.nx
  refine L_nil ⟨rfl, ?_⟩
  refine D_l (l := [8,9]) kr kr (Rk_noRead kr) (NS_i ((k : Int)) (((min k (n - k) : Nat) : Int)) (nv ((k + min k (n - k) : Nat) : Int)) rfl rfl kr kr kr kr rfl (add_nat (by omega)) (NS_b 1 kr (NS_nil ?_)))
  exact ⟨n - (k + min k (n - k)), by omega, k + min k (n - k), rfl, by omega, by omega, hcq, TQ, kr, kr⟩
 ·
  have hge : k = n := by simp at hb; omega
  subst hge
  refine W_exit ?_
  repeat with_reducible refine then_exit ?_
  refine exit_here (W_sg 2 kr (L_nil (W_ret ?_)))
  repeat first | with_reducible refine then_ret ?_ | with_reducible refine blk_ret ?_
  refine done_of (v := .slice (some ⟨h260.next, 0, none⟩) k k) (.inl rfl) kr ?_
  exact ⟨_, hN30, by have := hcr; unfold row2 at this; rw [Nat.sub_self, List.replicate_zero, List.append_nil] at this; exact this, rfl, TL⟩
end
end Go.Proofs.Ytmehemeoaplepaa
namespace Go.Arm
noncomputable section
open Go Go.X Go.Mt
section
variable {G : Gh} {h h' : AH} {S : Nat → Prop} {r : Ro} {b : Nat} {v : Value} {x : Th}
theorem Op.putO (O : Op G h) (r : Ro) (b : Nat) (v : Value) (x : Th) (s : Sm S h h') (hS : ∀ c, S c → (G.C r ≠ .no ∧ vbx (G.V r) = some c) ∨ h.next ≤ c)
   (A : At h' ((G.put r b v x).V r) x) (hv : ∀ c, vbx ((G.put r b v x).V r) = some c → (G.C r ≠ .no ∧ vbx (G.V r) = some c) ∨ (¬ G.mut c ∧ ¬ G.ro c)) :
   Op (G.put r b v x) h' ∧ ∀ c, (G.put r b v x).mut c → G.mut c ∨ vbx ((G.put r b v x).V r) = some c := by
 have hmu : ∀ c, (G.put r b v x).mut c → G.mut c ∨ vbx ((G.put r b v x).V r) = some c := by
   rintro c ⟨r', h3, h4⟩
   by_cases e : r' = r
   · subst e; exact .inr h4
   · rw [C_put e] at h3; rw [V_put e] at h4; exact .inl ⟨r', h3, h4⟩
 have hother : ∀ r', r' ≠ r → ∀ c, G.C r' ≠ .no → vbx (G.V r') = some c → ¬ S c := fun r' hr c hc hb hs => by
   rcases hS c hs with ⟨e1, e2⟩ | e
   · exact hr (O.inj _ _ _ hc e1 hb e2)
   · exact O.new e ⟨r', hc, hb⟩
 refine ⟨⟨fun r' => ?_, fun r' r'' c h3 h4 h5 h6 => ?_, fun c hc hr => ?_, fun c hc => Nat.lt_of_lt_of_le (O.rolt c hc) s.nx⟩, hmu⟩
 · by_cases e : r' = r
   · subst e; rw [C_at]; exact A
   · rw [V_put e, C_put e]
     by_cases e2 : G.C r' = .no
     · rw [e2]; trivial
     · exact (O.here r').sm s (fun c hb => hother r' e c e2 hb)
 · by_cases e : r' = r
   · by_cases e2 : r'' = r
     · rw [e, e2]
     · subst e
       rw [C_put e2] at h4; rw [V_put e2] at h6
       rcases hv c h5 with q | q
       · exact O.inj _ _ _ q.1 h4 q.2 h6
       · exact (q.1 ⟨_, h4, h6⟩).elim
   · rw [C_put e] at h3; rw [V_put e] at h5
     by_cases e2 : r'' = r
     · subst e2
       rcases hv c h6 with q | q
       · exact O.inj _ _ _ h3 q.1 h5 q.2
       · exact (q.1 ⟨_, h3, h5⟩).elim
     · rw [C_put e2] at h4; rw [V_put e2] at h6
       exact O.inj _ _ _ h3 h4 h5 h6
 · rcases hmu c hc with q | q
   · exact O.ro c q hr
   · rcases hv c q with k | k
     · exact O.ro c ⟨r, k.1, k.2⟩ hr
     · exact k.2 hr
theorem Op.oS (O : Op G h) (r : Ro) (v : Value) (x : Th) (hV : ∀ G : Gh, G.V r = G.S r) (s : Sm S h h') (hS : ∀ c, S c → (G.C r ≠ .no ∧ vbx (G.S r) = some c) ∨ h.next ≤ c) (A : At h' v x) (hv : ∀ c, vbx v = some c → (G.C r ≠ .no ∧ vbx (G.S r) = some c) ∨ (¬ G.mut c ∧ ¬ G.ro c)) :
  Op (G.putS r v x) h' ∧ ∀ c, (G.putS r v x).mut c → G.mut c ∨ vbx v = some c := by
 have e : (G.putS r v x).V r = v := by rw [hV]; exact ups_at _ _ _
 have := O.putO r (G.B r) v x s (fun c hc => by rw [hV]; exact hS c hc) (by rw [put_S, e]; exact A) (fun c hc => by rw [put_S, e] at hc; rw [hV]; exact hv c hc)
 rw [put_S, e] at this
 exact this
theorem Op.oB (O : Op G h) (r : Ro) (b : Nat) (x : Th) (hV : vbx ((G.putB r b x).V r) = some b) (A : At h ((G.putB r b x).V r) x) (hv : ¬ G.mut b ∧ ¬ G.ro b) :
  Op (G.putB r b x) h ∧ ∀ c, (G.putB r b x).mut c → G.mut c ∨ c = b := by
 have := O.putO (S := Nix) (h' := h) r b (G.S r) x .refl (fun c hc => hc.elim) (by rw [put_B]; exact A) (fun c hc => by rw [put_B, hV] at hc; cases hc; exact .inr hv)
 rw [put_B] at this
 exact ⟨this.1, fun c hc => (this.2 c hc).imp id fun e => by rw [hV] at e; cases e; rfl⟩
end
def pr0 (n : Nat) (c : Int) : Pr := ⟨1, [], [], [], [], [], List.replicate n c⟩
def rq0 : Rq := ⟨0, 0, 0, 0, 0, false, false, false, false, false, 0, 0, [], [], 0, [], false, St.z⟩
def Wd.new (n : Nat) (e c : Int) : Wd := ⟨e, n, fun _ => pr0 n c, fun _ _ => rq0, fun _ _ => []⟩
variable [Tys]
structure NewI (h0 h : AH) (G : Gh) (k n : Nat) (e c : Int) : Prop where
 op : Op G h
 mu : ∀ b, G.mut b → h0.next ≤ b
 ro : ∀ b, ¬ G.ro b
 wd : G.C .wd = .cl [nv e, G.S .prs, .map (some (G.B .ways))]
 prs : G.C .prs = .gr 1 k ((List.range k).map fun p => ptr (G.B (.pr p)))
 ways : G.C .ways = .mp []
 way : ∀ a b, G.C (.way a b) = .gr 1 0 [] ∧ G.S (.way a b) = nilS
 pr : ∀ p, p < k → RelP (pr0 n c) (fun _ => rq0) G h p
 non : ∀ p no, G.C (.rq p no) = .no
 no : ∀ r p, r.of = some p → k ≤ p → G.C r = .no
section
variable {G : Gh} {h0 h h' h1 h2 : AH} {k n : Nat} {e c : Int}
theorem NewI.ext (N : NewI h0 h G k n e c) (s : Sm Nix h h') : NewI h0 h' G k n e c :=
 ⟨N.op.ext s, N.mu, N.ro, N.wd, N.prs, N.ways, N.way, fun p hp => (N.pr p hp).mono rfl rfl rfl (N.op.dr s.of), N.non, N.no⟩
theorem NewI.rep (N : NewI h0 h G n n e c) : ∃ G', Rep (Wd.new n e c) G' h ∧ G'.B = G.B ∧ ∀ b, G'.mut b ∨ G'.ro b → h0.next ≤ b := by
 have hg := N.op.here .prs
 rw [N.prs] at hg
 obtain ⟨O, M⟩ := N.op.oS .prs (G.S .prs) (.sd 1 n ((List.range n).map fun p => ptr (G.B (.pr p)))) (fun _ => rfl) (Sm.refl (S := Nix)) (fun c hc => hc.elim) (Gr.sd hg) (fun c hc => .inl ⟨by rw [N.prs]; simp, hc⟩)
 refine ⟨_, ⟨O, ?_⟩, rfl, fun b hb => ?_⟩
 · refine ⟨?_, ups_at G.C Ro.prs (.sd 1 n ((List.range n).map fun p => ptr (G.B (.pr p)))), ⟨[], N.ways, by simp, fun a b => ?_⟩, fun a b => ⟨[], (N.way a b).1, .nil⟩, fun p hp => ?_⟩
   · show G.C .wd = .cl [nv e, ups G.S .prs (G.S .prs) .prs, _]
     rw [ups_at]; exact N.wd
   · exact (N.way a b).2.symm
   · refine (N.pr p hp).congr (fun r hr => ⟨?_, ?_, rfl⟩) rfl
     · exact ups_ne _ _ (by intro h; rw [h] at hr; cases hr)
     · exact ups_ne _ _ (by intro h; rw [h] at hr; cases hr)
 · rcases hb with hb | hb
   · rcases M b hb with q | q
     · exact N.mu b q
     · exact N.mu b ⟨.prs, by rw [N.prs]; simp, q⟩
   · exact (N.ro b hb).elim
theorem NewI.start {bw bm : Nat} {e c : Int} (cw : Cl h bw [nv e, .slice none 0 0, .map (some bm)]) (mm : Mp h bm k2 Eq ([] : List ((Int × Int) × Value))) (mb : Mb h bm) (hw : h0.next ≤ bw) (hm : h0.next ≤ bm) (hne : bw ≠ bm) :
   ∃ G, NewI h0 h G 0 n e c ∧ G.B .wd = bw := by
 refine ⟨⟨fun r => if r = .wd then bw else bm, fun _ => nilS, fun r => match r with | .wd => .cl [nv e, nilS, .map (some bm)] | .prs => .gr 1 0 [] | .ways => .mp [] | .way _ _ => .gr 1 0 [] | _ => .no, fun _ => False⟩, ?_, rfl⟩
 have hval : ∀ r b, (match r with | .wd => Th.cl [nv e, nilS, .map (some bm)] | .prs => .gr 1 0 [] | .ways => .mp [] | .way _ _ => .gr 1 0 [] | _ => .no) ≠ .no →
     vbx (Gh.V ⟨fun r => if r = .wd then bw else bm, fun _ => nilS, fun r => match r with | .wd => .cl [nv e, nilS, .map (some bm)] | .prs => .gr 1 0 [] | .ways => .mp [] | .way _ _ => .gr 1 0 [] | _ => .no, fun _ => False⟩ r) = some b → (r = .wd ∧ b = bw) ∨ (r = .ways ∧ b = bm) := by
   intro r b h1 h2
   cases r with
   | wd => cases h2; exact .inl ⟨rfl, rfl⟩
   | ways => cases h2; exact .inr ⟨rfl, rfl⟩
   | prs => cases h2
   | way a b => cases h2
   | _ => exact (h1 rfl).elim
 refine ⟨⟨fun r => ?_, fun r r' b h1 h2 h3 h4 => ?_, fun b hb => id, fun b hb => hb.elim⟩, fun b hb => ?_, fun b hb => hb, rfl, rfl, rfl, fun _ _ => ⟨rfl, rfl⟩, fun p hp => by omega, fun _ _ => rfl, fun r p hr _ => ?_⟩
 · cases r with
   | wd => exact ⟨bw, rfl, cw⟩
   | ways => exact ⟨bm, rfl, mm, mb⟩
   | prs => exact Gr.nil
   | way a b => exact Gr.nil
   | _ => trivial
 · rcases hval r b h1 h3 with ⟨rfl, rfl⟩ | ⟨rfl, rfl⟩ <;> rcases hval r' _ h2 h4 with ⟨rfl, e2⟩ | ⟨rfl, e2⟩
   · rfl
   · exact (hne e2).elim
   · exact (hne e2.symm).elim
   · rfl
 · obtain ⟨r, h1, h2⟩ := hb
   rcases hval r b h1 h2 with ⟨_, rfl⟩ | ⟨_, rfl⟩
   · exact hw
   · exact hm
 · cases r <;> first | rfl | cases hr
theorem NewI.step (N : NewI h0 h G k n e c) {bR bE bP bC : Nat} {hs : AH} (t0 : Sm Nix h hs) (hR : h.next ≤ bR) (hRE : bR < bE) (hEC : bE < bC) (hCP : bC < bP) (h00 : h0.next ≤ h.next)
   (mR : Mp hs bR nv Eq ([] : List (Int × Value))) (bRb : Mb hs bR) (mE : Mp hs bE k2 Eq ([] : List ((Int × Int) × Value))) (bEb : Mb hs bE) (cC : Cl hs bC ((List.replicate n c).map nv))
   (cP : Cl hs bP [nk 1, .map (some bR), .map (some bE), nilS, nilS, nilS, .slice (some ⟨bC, 0, none⟩) n n]) {v' : Value} {S : Nat → Prop}
   (g : Gr h1 1 v' (k + 1) ((List.range k).map (fun p => ptr (G.B (.pr p))) ++ [ptr bP])) (t1 : Sm S hs h1) (hS : ∀ b, S b → vb (G.S .prs) = some b ∨ hs.next ≤ b) (hv' : ∀ b, vb v' = some b → vb (G.S .prs) = some b ∨ hs.next ≤ b)
   (cw : Cl h2 (G.B .wd) [nv e, v', .map (some (G.B .ways))]) (t2 : Sm (fun b => b = G.B .wd) h1 h2) : ∃ G', NewI h0 h2 G' (k + 1) n e c ∧ G'.B .wd = G.B .wd := by
 have Ns := N.ext t0
 have hnew : ∀ b, h.next ≤ b → ¬ G.mut b := fun b hb hm => by have := N.op.lt hm; omega
 obtain ⟨O1, M1⟩ := Ns.op.oB (.rqs k) bR (.mi []) (by show vbx (.map (some (ups _ _ _ _))) = _; rw [ups_at]; rfl) ⟨bR, by show Value.map (some (ups _ _ _ _)) = _; rw [ups_at], mR, bRb⟩ ⟨hnew _ hR, N.ro _⟩
 obtain ⟨O2, M2⟩ := O1.oB (.exs k) bE (.mp []) (by show vbx (.map (some (ups _ _ _ _))) = _; rw [ups_at]; rfl) ⟨bE, by show Value.map (some (ups _ _ _ _)) = _; rw [ups_at], mE, bEb⟩ ⟨fun hm => (M1 _ hm).elim (hnew bE (by omega)) (fun e => by omega), N.ro _⟩
 obtain ⟨O3, M3⟩ := O2.oS (.crd k) (.slice (some ⟨bC, 0, none⟩) n n) (.ws n ((List.replicate n c).map nv)) (fun _ => rfl) (Sm.refl (S := Nix)) (fun c hc => hc.elim) (cC.ws (by simp)) (fun d hd => by
   have ed : bC = d := Option.some.inj hd
   exact .inr ⟨fun hm => (M2 _ hm).elim (fun q => (M1 _ q).elim (hnew d (by omega)) (fun e => by omega)) (fun e => by omega), N.ro _⟩)
 obtain ⟨O4, M4⟩ := O3.oS (.inb k) nilS (.gr 2 0 []) (fun _ => rfl) (Sm.refl (S := Nix)) (fun c hc => hc.elim) Gr.nil (fun d hd => by cases hd)
 obtain ⟨O5, M5⟩ := O4.oS (.msg k) nilS (.gr 6 0 []) (fun _ => rfl) (Sm.refl (S := Nix)) (fun c hc => hc.elim) Gr.nil (fun d hd => by cases hd)
 obtain ⟨O6, M6⟩ := O5.oS (.rcv k) nilS (.gr 1 0 []) (fun _ => rfl) (Sm.refl (S := Nix)) (fun c hc => hc.elim) Gr.nil (fun d hd => by cases hd)
 have m6 : ∀ b, Gh.mut _ b → G.mut b ∨ b = bR ∨ b = bE ∨ b = bC := fun b hm => by
   rcases M6 b hm with q | q
   · rcases M5 b q with q | q
     · rcases M4 b q with q | q
       · rcases M3 b q with q | q
         · rcases M2 b q with q | q
           · exact (M1 b q).imp id .inl
           · exact .inr (.inr (.inl q))
         · cases q; exact .inr (.inr (.inr rfl))
       · cases q
     · cases q
   · cases q
 obtain ⟨O7, M7⟩ := O6.oB (.pr k) bP (.cl [nk 1, .map (some bR), .map (some bE), nilS, nilS, nilS, .slice (some ⟨bC, 0, none⟩) n n]) (by show vbx (ptr (ups _ _ _ _)) = _; rw [ups_at]; rfl) ⟨bP, by show ptr (ups _ _ _ _) = _; rw [ups_at], cP⟩ ⟨fun hm => (m6 _ hm).elim (hnew bP (by omega)) (fun e => by omega), N.ro _⟩
 have hC : ∀ r, r.of ≠ some k → ups (ups (ups (ups (ups (ups (ups G.C (.rqs k) (.mi [])) (.exs k) (.mp [])) (.crd k) (.ws n ((List.replicate n c).map nv))) (.inb k) (.gr 2 0 [])) (.msg k) (.gr 6 0 [])) (.rcv k) (.gr 1 0 [])) (.pr k) (.cl [nk 1, .map (some bR), .map (some bE), nilS, nilS, nilS, .slice (some ⟨bC, 0, none⟩) n n]) r = G.C r := fun r hr => by
   rw [ups_ne _ _ (of_ne rfl hr), ups_ne _ _ (of_ne rfl hr), ups_ne _ _ (of_ne rfl hr), ups_ne _ _ (of_ne rfl hr), ups_ne _ _ (of_ne rfl hr), ups_ne _ _ (of_ne rfl hr), ups_ne _ _ (of_ne rfl hr)]
 have hp0 : ups (ups (ups (ups (ups (ups (ups G.C (.rqs k) (.mi [])) (.exs k) (.mp [])) (.crd k) (.ws n ((List.replicate n c).map nv))) (.inb k) (.gr 2 0 [])) (.msg k) (.gr 6 0 [])) (.rcv k) (.gr 1 0 [])) (.pr k) (.cl [nk 1, .map (some bR), .map (some bE), nilS, nilS, nilS, .slice (some ⟨bC, 0, none⟩) n n]) .prs ≠ .no := by rw [hC .prs (by simp [Ro.of]), N.prs]; simp
 have hw0 : ups (ups (ups (ups (ups (ups (ups (ups G.C (.rqs k) (.mi [])) (.exs k) (.mp [])) (.crd k) (.ws n ((List.replicate n c).map nv))) (.inb k) (.gr 2 0 [])) (.msg k) (.gr 6 0 [])) (.rcv k) (.gr 1 0 [])) (.pr k) (.cl [nk 1, .map (some bR), .map (some bE), nilS, nilS, nilS, .slice (some ⟨bC, 0, none⟩) n n])) .prs (.gr 1 (k + 1) ((List.range k).map (fun p => ptr (G.B (.pr p))) ++ [ptr bP])) .wd ≠ .no := by rw [ups_ne _ _ (by simp), hC .wd (by simp [Ro.of]), N.wd]; simp
 obtain ⟨O8, M8⟩ := O7.oS .prs v' (.gr 1 (k + 1) ((List.range k).map (fun p => ptr (G.B (.pr p))) ++ [ptr bP])) (fun _ => rfl) t1 (fun c hc => (hS c hc).imp (fun q => ⟨hp0, vb_vbx q⟩) id) g (fun d hd => by
   have hd2 : vb v' = some d := vbx_sl (by obtain ⟨a, e, f⟩ := g.sd.form; exact ⟨a, _, e, f⟩) hd
   rcases hv' d hd2 with q | q
   · exact .inl ⟨hp0, vb_vbx q⟩
   · exact .inr ⟨O7.new q, N.ro _⟩)
 obtain ⟨O9, M9⟩ := O8.putO .wd (G.B .wd) (G.S .wd) (.cl [nv e, v', .map (some (G.B .ways))]) t2 (fun d hd => .inl ⟨hw0, by subst hd; rfl⟩) ⟨G.B .wd, congrArg ptr (ups_at (ups (ups (ups G.B (.rqs k) bR) (.exs k) bE) (.pr k) bP) Ro.wd (G.B .wd)), cw⟩
   (fun d hd => .inl ⟨hw0, by
     have hB0 : ups (ups (ups (ups G.B (.rqs k) bR) (.exs k) bE) (.pr k) bP) .wd (G.B .wd) .wd = G.B .wd := ups_at _ _ _
     have h9 : ups (ups (ups (ups G.B (.rqs k) bR) (.exs k) bE) (.pr k) bP) .wd (G.B .wd) .wd = d := Option.some.inj hd
     exact congrArg some (hB0.symm.trans h9)⟩)
 have hCC : ∀ r p, r.of = some p → p ≠ k → (ups (ups (ups (ups (ups (ups (ups (ups (ups G.C (.rqs k) (.mi [])) (.exs k) (.mp [])) (.crd k) (.ws n ((List.replicate n c).map nv))) (.inb k) (.gr 2 0 [])) (.msg k) (.gr 6 0 [])) (.rcv k) (.gr 1 0 [])) (.pr k) (.cl [nk 1, .map (some bR), .map (some bE), nilS, nilS, nilS, .slice (some ⟨bC, 0, none⟩) n n])) .prs (.gr 1 (k + 1) ((List.range k).map (fun p => ptr (G.B (.pr p))) ++ [ptr bP]))) .wd (.cl [nv e, v', .map (some (G.B .ways))])) r = G.C r := fun r p hr hp => by
   have hk : r.of ≠ some k := by rw [hr]; simpa using hp
   rw [ups_ne _ _ (by intro h; rw [h] at hr; cases hr), ups_ne _ _ (by intro h; rw [h] at hr; cases hr), hC r hk]
 have hSS : ∀ r, r.of ≠ some k → r ≠ .prs → r ≠ .wd → (ups (ups (ups (ups (ups (ups G.S (.crd k) (.slice (some ⟨bC, 0, none⟩) n n)) (.inb k) nilS) (.msg k) nilS) (.rcv k) nilS) .prs v') .wd (G.S .wd)) r = G.S r := fun r hk h1 h2 => by
   rw [ups_ne _ _ h2, ups_ne _ _ h1, ups_ne _ _ (of_ne rfl hk), ups_ne _ _ (of_ne rfl hk), ups_ne _ _ (of_ne rfl hk), ups_ne _ _ (of_ne rfl hk)]
 have hBB : ∀ r, r.of ≠ some k → (ups (ups (ups (ups G.B (.rqs k) bR) (.exs k) bE) (.pr k) bP) .wd (G.B .wd)) r = G.B r := fun r hk => by
   by_cases e : r = .wd
   · subst e; exact ups_at _ _ _
   · rw [ups_ne _ _ e, ups_ne _ _ (of_ne rfl hk), ups_ne _ _ (of_ne rfl hk), ups_ne _ _ (of_ne rfl hk)]
 have hBk : (ups (ups (ups (ups G.B (.rqs k) bR) (.exs k) bE) (.pr k) bP) .wd (G.B .wd)) (.pr k) = bP := by rw [ups_ne _ _ (by simp), ups_at]
 have hSp : (ups (ups (ups (ups (ups (ups G.S (.crd k) (.slice (some ⟨bC, 0, none⟩) n n)) (.inb k) nilS) (.msg k) nilS) (.rcv k) nilS) .prs v') .wd (G.S .wd)) .prs = v' := by rw [ups_ne _ _ (by simp), ups_at]
 refine ⟨_, ⟨O9, fun b hb => ?_, N.ro, ?_, ?_, ?_, fun a b => ?_, fun p hp => ?_, fun p no => ?_, fun r p hr hkp => ?_⟩, hBB .wd (by simp [Ro.of])⟩
 · rcases M9 b hb with q | q
   · rcases M8 b q with q | q
     · rcases M7 b q with q | q
       · rcases m6 b q with q | q
         · exact N.mu b q
         · omega
       · omega
     · rcases hv' b (vbx_sl (by obtain ⟨a, e, f⟩ := g.sd.form; exact ⟨a, _, e, f⟩) q) with q | q
       · exact N.mu b ⟨.prs, by rw [N.prs]; simp, vb_vbx q⟩
       · have := t0.nx; omega
   · have hB0 : ups (ups (ups (ups G.B (.rqs k) bR) (.exs k) bE) (.pr k) bP) .wd (G.B .wd) .wd = G.B .wd := ups_at _ _ _
     have h9 : ups (ups (ups (ups G.B (.rqs k) bR) (.exs k) bE) (.pr k) bP) .wd (G.B .wd) .wd = b := Option.some.inj q
     exact N.mu b ⟨.wd, by rw [N.wd]; simp, congrArg some (hB0.symm.trans h9)⟩
 · show (ups (ups (ups (ups (ups (ups (ups (ups (ups G.C (.rqs k) (.mi [])) (.exs k) (.mp [])) (.crd k) (.ws n ((List.replicate n c).map nv))) (.inb k) (.gr 2 0 [])) (.msg k) (.gr 6 0 [])) (.rcv k) (.gr 1 0 [])) (.pr k) (.cl [nk 1, .map (some bR), .map (some bE), nilS, nilS, nilS, .slice (some ⟨bC, 0, none⟩) n n])) .prs (.gr 1 (k + 1) ((List.range k).map (fun p => ptr (G.B (.pr p))) ++ [ptr bP]))) .wd (.cl [nv e, v', .map (some (G.B .ways))])) .wd = .cl [nv e, (ups (ups (ups (ups (ups (ups G.S (.crd k) (.slice (some ⟨bC, 0, none⟩) n n)) (.inb k) nilS) (.msg k) nilS) (.rcv k) nilS) .prs v') .wd (G.S .wd)) .prs, .map (some ((ups (ups (ups (ups G.B (.rqs k) bR) (.exs k) bE) (.pr k) bP) .wd (G.B .wd)) .ways))]
   rw [hSp, hBB .ways (by simp [Ro.of]), ups_at]
 · show (ups (ups (ups (ups (ups (ups (ups (ups (ups G.C (.rqs k) (.mi [])) (.exs k) (.mp [])) (.crd k) (.ws n ((List.replicate n c).map nv))) (.inb k) (.gr 2 0 [])) (.msg k) (.gr 6 0 [])) (.rcv k) (.gr 1 0 [])) (.pr k) (.cl [nk 1, .map (some bR), .map (some bE), nilS, nilS, nilS, .slice (some ⟨bC, 0, none⟩) n n])) .prs (.gr 1 (k + 1) ((List.range k).map (fun p => ptr (G.B (.pr p))) ++ [ptr bP]))) .wd (.cl [nv e, v', .map (some (G.B .ways))])) .prs = .gr 1 (k + 1) ((List.range (k + 1)).map fun p => ptr ((ups (ups (ups (ups G.B (.rqs k) bR) (.exs k) bE) (.pr k) bP) .wd (G.B .wd)) (.pr p)))
   rw [ups_ne _ _ (show Ro.prs ≠ Ro.wd by simp), ups_at, List.range_succ, List.map_append]
   congr 2
   · refine List.map_congr_left fun p hp => ?_
     rw [hBB (.pr p) (by have := List.mem_range.1 hp; simp [Ro.of]; omega)]
   · show [ptr bP] = [ptr ((ups (ups (ups (ups G.B (.rqs k) bR) (.exs k) bE) (.pr k) bP) .wd (G.B .wd)) (.pr k))]
     rw [hBk]
 · show (ups (ups (ups (ups (ups (ups (ups (ups (ups G.C (.rqs k) (.mi [])) (.exs k) (.mp [])) (.crd k) (.ws n ((List.replicate n c).map nv))) (.inb k) (.gr 2 0 [])) (.msg k) (.gr 6 0 [])) (.rcv k) (.gr 1 0 [])) (.pr k) (.cl [nk 1, .map (some bR), .map (some bE), nilS, nilS, nilS, .slice (some ⟨bC, 0, none⟩) n n])) .prs (.gr 1 (k + 1) ((List.range k).map (fun p => ptr (G.B (.pr p))) ++ [ptr bP]))) .wd (.cl [nv e, v', .map (some (G.B .ways))])) .ways = _
   rw [ups_ne _ _ (show Ro.ways ≠ Ro.wd by simp), ups_ne _ _ (show Ro.ways ≠ Ro.prs by simp), hC .ways (by simp [Ro.of])]; exact N.ways
 · refine ⟨?_, ?_⟩
   · show (ups (ups (ups (ups (ups (ups (ups (ups (ups G.C (.rqs k) (.mi [])) (.exs k) (.mp [])) (.crd k) (.ws n ((List.replicate n c).map nv))) (.inb k) (.gr 2 0 [])) (.msg k) (.gr 6 0 [])) (.rcv k) (.gr 1 0 [])) (.pr k) (.cl [nk 1, .map (some bR), .map (some bE), nilS, nilS, nilS, .slice (some ⟨bC, 0, none⟩) n n])) .prs (.gr 1 (k + 1) ((List.range k).map (fun p => ptr (G.B (.pr p))) ++ [ptr bP]))) .wd (.cl [nv e, v', .map (some (G.B .ways))])) (.way a b) = _
     rw [ups_ne _ _ (show Ro.way a b ≠ Ro.wd by simp), ups_ne _ _ (show Ro.way a b ≠ Ro.prs by simp), hC (.way a b) (by simp [Ro.of])]; exact (N.way a b).1
   · show (ups (ups (ups (ups (ups (ups G.S (.crd k) (.slice (some ⟨bC, 0, none⟩) n n)) (.inb k) nilS) (.msg k) nilS) (.rcv k) nilS) .prs v') .wd (G.S .wd)) (.way a b) = _
     rw [hSS (.way a b) (by simp [Ro.of]) (by simp) (by simp)]; exact (N.way a b).2
 · by_cases epk : p = k
   · rw [epk]
     have hno : ∀ no, (ups (ups (ups (ups (ups (ups (ups (ups (ups G.C (.rqs k) (.mi [])) (.exs k) (.mp [])) (.crd k) (.ws n ((List.replicate n c).map nv))) (.inb k) (.gr 2 0 [])) (.msg k) (.gr 6 0 [])) (.rcv k) (.gr 1 0 [])) (.pr k) (.cl [nk 1, .map (some bR), .map (some bE), nilS, nilS, nilS, .slice (some ⟨bC, 0, none⟩) n n])) .prs (.gr 1 (k + 1) ((List.range k).map (fun p => ptr (G.B (.pr p))) ++ [ptr bP]))) .wd (.cl [nv e, v', .map (some (G.B .ways))])) (.rq k no) = .no := fun no => by
       rw [ups_ne _ _ (by simp), ups_ne _ _ (by simp), ups_ne _ _ (by simp), ups_ne _ _ (by simp), ups_ne _ _ (by simp), ups_ne _ _ (by simp), ups_ne _ _ (by simp), ups_ne _ _ (by simp), ups_ne _ _ (by simp)]
       exact N.non k no
     refine ⟨?_, ?_, fun _ hk => (List.not_mem_nil hk).elim, ?_, fun _ hk => (List.not_mem_nil hk).elim, ⟨[], ?_, .nil⟩, ⟨[], ?_, .nil⟩, ?_, fun _ hk => (List.not_mem_nil hk).elim, ?_, fun no hn => (hn (hno no)).elim, fun no hn => (hn (hno no)).elim, fun no hn => (hn (hno no)).elim, fun no hn => (hn (hno no)).elim⟩
     · show _ = Th.cl (prC _ _ k)
       simp [prC, Gh.put, Gh.putS, Gh.putB, ups, pr0]
     · simp [Gh.put, Gh.putS, Gh.putB, ups, pr0]
     · simp [Gh.put, Gh.putS, Gh.putB, ups, pr0]
     · simp [Gh.put, Gh.putS, Gh.putB, ups, pr0]
     · simp [Gh.put, Gh.putS, Gh.putB, ups, pr0]
     · simp [Gh.put, Gh.putS, Gh.putB, ups, pr0]
     · simp [Gh.put, Gh.putS, Gh.putB, ups, pr0]
   · have P : RelP (pr0 n c) (fun _ => rq0) G h2 p := (Ns.pr p (by omega)).mono (G' := G) rfl rfl rfl (fun v d H => ⟨H.1.sm ((t1.mono (S' := fun x => S x ∨ x = G.B .wd) fun _ => .inl).then (t2.mono fun _ => .inr)) (fun b hb _ => (N.ro b (H.2 b hb)).elim), H.2⟩)
     exact P.congr (fun r hr => ⟨hCC r p hr epk, hSS r (by rw [hr]; simpa using epk) (by intro h; rw [h] at hr; cases hr) (by intro h; rw [h] at hr; cases hr), hBB r (by rw [hr]; simpa using epk)⟩) rfl
 · have h1 : (ups (ups (ups (ups (ups (ups (ups (ups (ups G.C (.rqs k) (.mi [])) (.exs k) (.mp [])) (.crd k) (.ws n ((List.replicate n c).map nv))) (.inb k) (.gr 2 0 [])) (.msg k) (.gr 6 0 [])) (.rcv k) (.gr 1 0 [])) (.pr k) (.cl [nk 1, .map (some bR), .map (some bE), nilS, nilS, nilS, .slice (some ⟨bC, 0, none⟩) n n])) .prs (.gr 1 (k + 1) ((List.range k).map (fun p => ptr (G.B (.pr p))) ++ [ptr bP]))) .wd (.cl [nv e, v', .map (some (G.B .ways))])) (.rq p no) = G.C (.rq p no) := by
     rw [ups_ne _ _ (by simp), ups_ne _ _ (by simp), ups_ne _ _ (by simp), ups_ne _ _ (by simp), ups_ne _ _ (by simp), ups_ne _ _ (by simp), ups_ne _ _ (by simp), ups_ne _ _ (by simp), ups_ne _ _ (by simp)]
   exact h1.trans (N.non p no)
 · exact (hCC r p hr (by omega)).trans (N.no r p hr (by omega))
end
end
end Go.Arm
namespace Go.Proofs.Ytmehemeoaplepaa
noncomputable section
open Go Go.X Go.Arm Go.Mt
set_option maxHeartbeats 1000000 in
theorem new_ok {h : AH} {n : Nat} {e c : Int} (hn : n = 1 ∨ n = 2 ∨ n = 3 ∨ n = 4 ∨ n = 5 ∨ n = 6 ∨ n = 7 ∨ n = 8) (he0 : 0 ≤ e) (he1 : e ≤ 4096) (hc0 : 0 ≤ c) (hc1 : c ≤ 64) :
  Arm.Calls Try.prog 9 [nv (n : Int), nv e, nv c] h (fun r => ∃ G, r.1 = .tuple ⟨[ptr (G.B .wd), nv 0]⟩ ∧ Rep (Wd.new n e c) G r.2 ∧ (∀ b, G.mut b ∨ G.ro b → h.next ≤ b) ∧ Sm Nix h r.2) := by
 have hn9 : n < 9 := by omega
 have hn0 : 0 < n := by omega
 refine Calls_W 57 Try.f9 ?_
 have T0 : Sm Nix h h := .refl
 refine W_sg 2 kr (L_nil (W_seq (W_sg 1 kr (L_i ((n : Int)) (1) (.bool false) rfl rfl kr kr rfl (by first | (simp; done) | (simp; omega)) (L_g 2 kr (L_want kr (L_i ((n : Int)) (64) (.bool false) rfl rfl kr kr rfl (by first | (simp; done) | (simp; omega)) ?_)))))))
 refine L_g 3 kr (L_want kr (L_i (e) (0) (.bool false) rfl rfl kr kr rfl (by first | (simp; done) | (simp; omega)) (L_g 3 kr (L_want kr (L_i (e) (4096) (.bool false) rfl rfl kr kr rfl (by first | (simp; done) | (simp; omega)) (L_g 3 kr (L_want kr (L_i (c) (0) (.bool false) rfl rfl kr kr rfl (by first | (simp; done) | (simp; omega)) (L_g 3 kr (L_want kr (L_i (c) (64) (.bool false) rfl rfl kr kr rfl (by first | (simp; done) | (simp; omega)) ?_)))))))))))
 refine L_g 1 kr (L_nil ?_)
 refine W_cond false kr (fun e => by cases e) (fun _ => ?_)
 refine W_skip (W_sg 1 kr (L_nw (Al.map) .mp rfl rfl kr ?_))
 have q264 : Mb (h.push (Al.map).obj) h.next := Mb.new _
 have m264 : Mp (h.push (Al.map).obj) h.next k2 Eq ([] : List ((Int × Int) × Value)) := Mp.new h
 have t264 : Sm Nix h (h.push (Al.map).obj) := .push h _
 have n264 : (h.push (Al.map).obj).next = h.next + 1 := rfl
 generalize h.push (Al.map).obj = h264 at m264 q264 t264 n264 ⊢
 have T264 := T0.ext t264
 have N264 := T264.nx
 refine L_g 1 kr (L_nwc [nv e, .slice none 0 0, .map (some (h.next))] .ptr rfl rfl kr fun h265 c265 t265 n265 => ?_)
 replace q264 := q264.sm t265 m264.1 (fun x => x)
 replace m264 := m264.sm t265 (fun x => x) (fun _ _ e => e)
 have T265 := T264.ext t265
 have N265 := T265.nx
 refine L_g 1 kr (L_nil (W_seq (W_sg 2 kr (L_nil (W_block ?_)))))
 refine W_loop (fun mm fr hh => ∃ (k : Nat) (G : Gh), mm = n - k ∧ k ≤ n ∧ NewI h hh G k n e c ∧ Sm Nix h hh ∧ G.B .wd = h264.next ∧ fr 0 = nv (n : Int) ∧ fr 2 = nv c ∧ fr 8 = ptr (h264.next) ∧ fr 35 = nv (n : Int) ∧ fr 36 = nv (k : Int)) (n) ?_ ?_
 ·
  obtain ⟨G, hN, hB⟩ := NewI.start c265 m264 q264 (h0 := h) (by omega) (by omega) (by omega)
  exact ⟨0, G, rfl, Nat.zero_le _, hN, T265, hB, kr, kr, kr, kr, kr⟩
 rintro mm fr hh ⟨k, G, hm, hkn, hN, TL, hB, y0, y2, y8, y35, y36⟩
 rw [← hB] at y8
 refine W_set (k := 0) y0 (W_set (k := 2) y2 (W_set (k := 8) y8 (W_set (k := 35) y35 (W_set (k := 36) y36 ?_))))
 have TK : Sm Nix hh hh := .refl
 have NL := TL.nx
 have cw0 : Arm.Cl hh (G.B .wd) [nv e, G.S .prs, .map (some (G.B .ways))] := by
  have := hN.op.here .wd
  rw [hN.wd] at this
  obtain ⟨b, e1, c1⟩ := this
  cases e1; exact c1
 have g0 : Gr hh 1 (G.S .prs) k ((List.range k).map fun p => ptr (G.B (.pr p))) := by
  have := hN.op.here .prs
  rw [hN.prs] at this; exact this
 refine W_seq (W_region (L_i ((k : Int)) ((n : Int)) (.bool (decide ((k : Int) < (n : Int)))) rfl rfl kr kr rfl (rfl) (L_nil (W_seq ?_))))
 refine W_cond (decide ((k : Int) < (n : Int))) kr (fun hb => ?_) (fun hb => ?_)
 ·
  have hlt : k < n := by simp at hb; omega
  refine W_skip (W_seq (W_block (W_drawn kr (D_e (e := 10) (l := [0,1,2,3,4,5,6,7,8,9]) (s' := [0,1,2,3,4,5,6]) kr kr rfl kr Rk_nil (NS_b 4 kr (NS_ld _ rfl rfl kr kr kr ((cw0.ext TK).ld (o := 1) kr rfl) (NS_newR (Al.map) .mp rfl kr rfl rfl kr (Rk_1 rfl rfl (Rk_1 rfl rfl (Rk_1 rfl rfl (Rk_1 rfl rfl (Rk_ld _ rfl rfl rfl kr ((cw0.ext (TK.ext (.push hh _))).ld (o := 1) kr rfl) kr (Rk_1 rfl rfl Rk_nil)))))) ?_)))))))
  have q266 : Mb (hh.push (Al.map).obj) hh.next := Mb.new _
  have m266 : Mp (hh.push (Al.map).obj) hh.next nv Eq ([] : List (Int × Value)) := Mp.new hh
  have t266 : Sm Nix hh (hh.push (Al.map).obj) := .push hh _
  have n266 : (hh.push (Al.map).obj).next = hh.next + 1 := rfl
  generalize hh.push (Al.map).obj = h266 at m266 q266 t266 n266 ⊢
  have T266 := TK.ext t266
  have N266 := T266.nx
  refine NS_newR (Al.map) .mp rfl kr rfl rfl kr (Rk_1 rfl rfl (Rk_1 rfl rfl (Rk_1 rfl rfl (Rk_1 rfl rfl (Rk_ld _ rfl rfl rfl kr ((cw0.ext (T266.ext (.push h266 _))).ld (o := 1) kr rfl) kr (Rk_1 rfl rfl (Rk_1 rfl rfl Rk_nil))))))) ?_
  have q267 : Mb (h266.push (Al.map).obj) h266.next := Mb.new _
  have m267 : Mp (h266.push (Al.map).obj) h266.next k2 Eq ([] : List ((Int × Int) × Value)) := Mp.new h266
  have t267 : Sm Nix h266 (h266.push (Al.map).obj) := .push h266 _
  have n267 : (h266.push (Al.map).obj).next = h266.next + 1 := rfl
  generalize h266.push (Al.map).obj = h267 at m267 q267 t267 n267 ⊢
  replace q266 := q266.sm t267 m266.1 (fun x => x)
  replace m266 := m266.sm t267 (fun x => x) (fun _ _ e => e)
  have T267 := T266.ext t267
  have N267 := T267.nx
  refine NS_b 1 kr (NS_nwc [nv c] (.sl 1 1) rfl kr rfl rfl kr (Rk_1 rfl rfl (Rk_1 rfl rfl (Rk_1 rfl rfl (Rk_1 rfl rfl (Rk_ld _ rfl rfl rfl kr ((cw0.ext (T267.ext (.push h267 _))).ld (o := 1) kr rfl) kr (Rk_1 rfl rfl (Rk_1 rfl rfl (Rk_1 rfl rfl (Rk_1 rfl rfl Rk_nil))))))))) fun h268 c268 t268 n268 => ?_)
  replace q266 := q266.sm t268 m266.1 (fun x => x)
  replace q267 := q267.sm t268 m267.1 (fun x => x)
  replace m266 := m266.sm t268 (fun x => x) (fun _ _ e => e)
  replace m267 := m267.sm t268 (fun x => x) (fun _ _ e => e)
  have T268 := T267.ext t268
  have N268 := T268.nx
  refine NS_b 1 kr (NS_nil (L_c rfl rfl kr (repeat_ok (c := c) c268 hn) ?_))
  rintro v269 h269 ⟨bb269, hbb269, cc269, e269, t269⟩
  try dsimp only at t269
  dsimp only at cc269 e269 t269
  subst e269
  replace q266 := q266.sm t269 m266.1 (fun x => x)
  replace q267 := q267.sm t269 m267.1 (fun x => x)
  replace c268 := c268.ext t269
  replace m266 := m266.sm t269 (fun x => x) (fun _ _ e => e)
  replace m267 := m267.sm t269 (fun x => x) (fun _ _ e => e)
  have T269 := T268.ext t269
  have N269 := T269.nx
  have M269 := t269.nx
  refine L_nil ⟨rfl, ?_⟩
  refine D_e (e := 14) (l := [11,12,13]) (s' := [0]) kr kr rfl kr (Rk_1 rfl rfl (Rk_1 rfl rfl (Rk_1 rfl rfl (Rk_1 rfl rfl (Rk_ld _ rfl rfl rfl kr ((cw0.ext T269).ld (o := 1) kr rfl) kr (Rk_1 rfl rfl (Rk_1 rfl rfl Rk_nil))))))) (NS_b 1 kr (NS_nwc [nv 1, .map (some (hh.next)), .map (some (h266.next)), .slice none 0 0, .slice none 0 0, .slice none 0 0, .slice (some ⟨bb269, 0, none⟩) n n] .ptr rfl kr rfl rfl kr (Rk_1 rfl rfl (Rk_1 rfl rfl (Rk_1 rfl rfl (Rk_1 rfl rfl (Rk_ld _ rfl rfl rfl kr ((cw0.ext (T269.ext (.push h269 _))).ld (o := 1) kr rfl) kr (Rk_1 rfl rfl (Rk_1 rfl rfl (Rk_1 rfl rfl (Rk_1 rfl rfl Rk_nil))))))))) fun h270 c270 t270 n270 => ?_))
  replace q266 := q266.sm t270 m266.1 (fun x => x)
  replace q267 := q267.sm t270 m267.1 (fun x => x)
  replace c268 := c268.ext t270
  replace m266 := m266.sm t270 (fun x => x) (fun _ _ e => e)
  replace m267 := m267.sm t270 (fun x => x) (fun _ _ e => e)
  have T270 := T269.ext t270
  have N270 := T270.nx
  have ccx := cc269.ext t270
  have lbb := cc269.lt
  have ltx := t270
  refine NS_nwc [ptr (h269.next)] (.sl 1 1) rfl kr rfl rfl kr (Rk_1 rfl rfl (Rk_1 rfl rfl (Rk_1 rfl rfl (Rk_1 rfl rfl (Rk_ld _ rfl rfl rfl kr ((cw0.ext (T270.ext (.push h270 _))).ld (o := 1) kr rfl) kr (Rk_1 rfl rfl (Rk_1 rfl rfl (Rk_1 rfl rfl (Rk_1 rfl rfl (Rk_1 rfl rfl Rk_nil)))))))))) fun h271 c271 t271 n271 => ?_
  replace q266 := q266.sm t271 m266.1 (fun x => x)
  replace q267 := q267.sm t271 m267.1 (fun x => x)
  replace c268 := c268.ext t271
  replace c270 := c270.ext t271
  replace m266 := m266.sm t271 (fun x => x) (fun _ _ e => e)
  replace m267 := m267.sm t271 (fun x => x) (fun _ _ e => e)
  have T271 := T270.ext t271
  have N271 := T271.nx
  have ccy := ccx.ext t271
  refine NS_nil ?_
  have l43 := m266.1
  have l44 := m267.1
  obtain ⟨v272, h272, e272, g272, t272, f272⟩ := (g0.ext T271).append (P := Try.prog) (sT := 74) (xT := 74) (el := 77) (by_ := 8) (z := .pointer none) (m := 1) (ds := [ptr (h269.next)]) kr kr kr kr kr rfl (by decide) (c271.sd rfl) (List.all_eq_true.1 rfl) (by omega)
  obtain ⟨va, vc, rfl⟩ := g272.sd.form
  have hnw : ¬ vb (G.S .prs) = some (G.B .wd) := fun e9 => hN.op.ne (r := .prs) (r' := .wd) (by rw [hN.prs]; simp) (by rw [hN.wd]; simp) (by simp) (vb_vbx e9) rfl
  have mRx := m266
  have qRx := q266
  have mEx := m267
  have qEx := q267
  have cPx := c270
  refine L_bi (.slice va (k + 1) vc) h272 rfl rfl kr (vs := [G.S .prs, .slice (some ⟨h270.next, 0, none⟩) 1 1]) kr (bi_append e272) ?_
  replace c268 := c268.lt
  replace c270 := c270.lt
  replace c271 := c271.lt
  have T272 : Sm (fun q => vb (G.S .prs) = some q) h271 h272 := t272
  have N272 := T272.nx
  refine L_nil ⟨rfl, ?_⟩
  refine D_e (e := 17) (l := [15,16]) (s' := []) kr kr rfl kr (Rk_noRead kr) (NS_b 2 kr (NS_nil ?_))
  obtain ⟨h273, e273, d273, t273, n273⟩ := ((cw0.ext T271).sm T272 hnw).store (P := Try.prog) (T := 74) (o := 1) (v := .slice va (k + 1) vc) kr rfl rfl (by simp)
  have NB := T271.nx
  obtain ⟨G2, hN2, hB2⟩ := hN.step T271 (bR := hh.next) (bE := h266.next) (bC := bb269) (bP := h269.next) (by omega) (by omega) (by omega) (by omega) (by omega) mRx qRx mEx qEx (by rw [List.map_replicate]; exact ccy) cPx g272 T272 (fun q hq => .inl hq) (fun q hq => f272 q hq) d273 t273
  have T2 : Sm Nix h h273 := ((TL.ext T271).trans T272 (fun q hq => .inr (hN.mu q ⟨.prs, by rw [hN.prs]; simp, vb_vbx hq⟩))).trans t273 (fun q hq => .inr (hN.mu q ⟨.wd, by rw [hN.wd]; simp, by subst hq; rfl⟩))
  refine L_st _ rfl rfl rfl kr kr (e273) ?_
  have T273 : Sm Nix h273 h273 := .refl
  refine L_nil ⟨rfl, ?_⟩
  refine D_l (l := []) kr kr Rk_nil (NS_nil (W_region (L_i ((k : Int)) (1) (nv ((k + 1 : Nat) : Int)) rfl rfl kr kr rfl (inc_ok (by omega)) (L_g 1 kr (L_nil ?_)))))
  exact ⟨n - (k + 1), by omega, k + 1, G2, rfl, by omega, hN2, T2, hB2.trans hB, kr, kr, (by rw [← hB]; kernel_rfl), kr, kr⟩
 ·
  have hge : k = n := by simp at hb; omega
  subst hge
  refine W_exit ?_
  repeat with_reducible refine then_exit ?_
  refine exit_here (W_sg 3 kr (L_nil (W_ret ?_)))
  repeat first | with_reducible refine then_ret ?_ | with_reducible refine blk_ret ?_
  obtain ⟨G3, R3, hB3, hm3⟩ := hN.rep
  refine done_of (v := .tuple ⟨[ptr (G.B .wd), nv 0]⟩) (.inl rfl) kr ?_
  exact ⟨G3, by rw [hB3], R3, hm3, TL⟩
end
end Go.Proofs.Ytmehemeoaplepaa
namespace Go.Mt
open Go.Arm
namespace Wd
def mv (w : Wd) (a b j : Nat) : Wd := (w.setWay a b ((w.way a b).drop j)).setPr b { w.pr b with inb := (w.pr b).inb ++ ((w.way a b).take j).map fun x => ((a : Int), x) }
theorem setWay_at (w : Wd) (a b : Int) (l : List Pk) : (w.setWay a b l).way a b = l := by
 show ups w.way a (ups (w.way a) b l) a b = l
 rw [ups_at, ups_at]
theorem setWay_setWay (w : Wd) (a b : Int) (l m : List Pk) : (w.setWay a b l).setWay a b m = w.setWay a b m := by
 unfold setWay
 congr 1
 funext q
 by_cases e : q = a
 · subst e
   funext k
   by_cases e2 : k = b
   · subst e2; simp [ups]
   · simp [ups, e2]
 · simp [ups, e]
theorem setPr_setPr (w : Wd) (p : Nat) (x y : Pr) : (w.setPr p x).setPr p y = w.setPr p y := by
 unfold setPr
 congr 1
 funext q
 by_cases e : q = p
 · subst e; simp [ups]
 · simp [ups, e]
theorem setPr_same (w : Wd) (p : Nat) : w.setPr p (w.pr p) = w := by
 unfold setPr; rw [ups_id]
theorem setWay_same (w : Wd) (a b : Int) : w.setWay a b (w.way a b) = w := by
 unfold setWay; rw [ups_id, ups_id]
theorem mv_0 (w : Wd) (a b : Nat) : w.mv a b 0 = w := by
 unfold mv
 rw [List.drop_zero, List.take_zero, List.map_nil, List.append_nil, setWay_same]
 exact setPr_same w b
theorem mv_way (w : Wd) (a b j : Nat) : (w.mv a b j).way a b = (w.way a b).drop j := setWay_at _ _ _ _
theorem mv_inb (w : Wd) (a b j : Nat) : ((w.mv a b j).pr b).inb = (w.pr b).inb ++ ((w.way a b).take j).map fun x => ((a : Int), x) := by
 unfold mv; rw [setPr_at]
theorem mv_s (w : Wd) (a b j : Nat) {x : Pk} {l : List Pk} (h : (w.way a b).drop j = x :: l) : (((w.mv a b j).setWay a b l).setPr b { (w.mv a b j).pr b with inb := ((w.mv a b j).pr b).inb ++ [((a : Int), x)] }) = w.mv a b (j + 1) := by
 have hd : (w.way a b).drop (j + 1) = l := by rw [← List.drop_drop, h]; rfl
 have ht : (w.way a b).take (j + 1) = (w.way a b).take j ++ [x] := by
  have hj : (w.way a b)[j]? = some x := by
   have := congrArg (fun l => l[0]?) h
   simpa using this
  rw [List.take_add_one, hj]; rfl
 rw [mv_inb]
 unfold mv
 rw [setPr_at, hd, ht, List.map_append, ← List.append_assoc]
 show (((w.setWay a b _).setPr b _).setWay a b l).setPr b _ = _
 have : ∀ (m : List Pk) (y : Pr), ((w.setWay a b m).setPr b y).setWay a b l = (w.setWay a b l).setPr b y := fun m y => by
  show ((w.setWay a b m).setWay a b l).setPr b y = _
  rw [setWay_setWay]
 rw [this, setPr_setPr]
 rfl
def delAll (w : Wd) (a b : Nat) : Option Wd := if (w.way a b).length < 200 ∧ (w.pr b).inb.length + 200 < big then some (w.mv a b (w.way a b).length) else none
def rowD (a : Nat) : Nat → Nat → Wd → Option Wd
 | _, 0, w => some w
 | b, m + 1, w => (w.delAll a b).bind (rowD a (b + 1) m)
def allD (n : Nat) : Nat → Nat → Wd → Option Wd
 | _, 0, w => some w
 | a, m + 1, w => (rowD a 0 n w).bind (allD n (a + 1) m)
def callsD : Nat → Nat → Wd → Option Wd
 | _, 0, w => some w
 | p, m + 1, w => (w.call p).bind (callsD (p + 1) m)
def rnd (w : Wd) : Option Wd := (allD w.n 0 w.n w).bind (callsD 0 w.n)
inductive Settles : Nat → Wd → Wd → Prop
 | last {w w1 : Wd} (h : w.rnd = some w1) (q : w1.quiet) : Settles 0 w w1
 | more {k : Nat} {w w1 w2 : Wd} (h : w.rnd = some w1) (q : ¬ w1.quiet) (t : Settles k w1 w2) : Settles (k + 1) w w2
theorem Settles.step {k : Nat} {w w' : Wd} (h : Settles k w w') : ∃ w1, w.rnd = some w1 ∧ ((w1.quiet ∧ w1 = w') ∨ (¬ w1.quiet ∧ ∃ k', k = k' + 1 ∧ Settles k' w1 w')) := by
 cases h with
 | last h q => exact ⟨_, h, .inl ⟨q, rfl⟩⟩
 | more h q t => exact ⟨_, h, .inr ⟨q, _, rfl, t⟩⟩
theorem delAll_n {w w' : Wd} {a b : Nat} (h : w.delAll a b = some w') : w'.n = w.n := by
 unfold delAll at h
 split at h
 · cases h; rfl
 · cases h
theorem rowD_n {a : Nat} : ∀ {m b : Nat} {w w' : Wd}, rowD a b m w = some w' → w'.n = w.n
 | 0, b, w, w', h => by cases h; rfl
 | m + 1, b, w, w', h => by
  obtain ⟨w1, h1, h2⟩ := Option.bind_eq_some_iff.1 h
  rw [rowD_n h2, delAll_n h1]
theorem allD_n {n : Nat} : ∀ {m a : Nat} {w w' : Wd}, allD n a m w = some w' → w'.n = w.n
 | 0, a, w, w', h => by cases h; rfl
 | m + 1, a, w, w', h => by
  obtain ⟨w1, h1, h2⟩ := Option.bind_eq_some_iff.1 h
  rw [allD_n h2, rowD_n h1]
theorem callsD_n : ∀ {m p : Nat} {w w' : Wd}, callsD p m w = some w' → w'.n = w.n
 | 0, p, w, w', h => by cases h; rfl
 | m + 1, p, w, w', h => by
  obtain ⟨w1, h1, h2⟩ := Option.bind_eq_some_iff.1 h
  rw [callsD_n h2, call_n h1]
theorem rnd_n {w w' : Wd} (h : w.rnd = some w') : w'.n = w.n := by
 obtain ⟨w1, h1, h2⟩ := Option.bind_eq_some_iff.1 h
 rw [callsD_n h2, allD_n h1]
end Wd
end Go.Mt
