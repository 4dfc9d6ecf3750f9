/- Worlds of the program and walks of its functions. -/
import Derived.Test.YtmehemeoaplepaaZn
import Derived.Test.YtmehemeoaplepaaZj
import Derived.Test.YtmehemeoaplepaaZl
import Derived.Test.YtmehemeoaplepaaZm
namespace Go.Proofs.Ytmehemeoaplepaa
noncomputable section
open Go Go.X Go.Arm Go.Mt
theorem check_qt {W : Wd} {G : Gh} {h : AH} {p : Nat} {q : Nat} {ctx : Int} {tag : Int} {wild : Bool} (R : Rep W G h) (hp : p < W.n) (hq : q < W.n) (hc0 : 0 ≤ ctx) (hc1 : ctx ≤ 1048576) (ht0 : 0 ≤ tag) (ht1 : tag ≤ 1048576) :
  Arm.Calls Try.prog 30 [ptr (G.B .wd), nv (p : Int), nv (q : Int), nv ctx, nv tag, .bool wild] h (fun r => r.1 = nv 0 ∧ Sm Nix h r.2) := by
 refine Calls_W 69 Try.f30 ?_
 have T0 : Sm Nix h h := .refl
 refine W_sg 1 kr (L_nil (W_seq (W_sg 2 kr (L_c rfl rfl kr (at_ok (R.ext T0) hp) ?_))))
 rintro v181 h181 ⟨e181, t181⟩
 try dsimp only at e181
 try dsimp only at t181
 subst e181
 have T181 := T0.ext t181
 have N181 := T181.nx
 have M181 := t181.nx
 refine L_g 5 kr (L_nil (W_sg 2 kr (L_nil ?_)))
 refine W_cond false kr (fun e => by cases e) (fun _ => ?_)
 refine W_skip (W_seq (W_sg 2 kr (L_c rfl rfl kr (at_ok (R.ext T181) hq) ?_)))
 rintro v182 h182 ⟨e182, t182⟩
 try dsimp only at e182
 try dsimp only at t182
 subst e182
 have T182 := T181.ext t182
 have N182 := T182.nx
 have M182 := t182.nx
 refine L_g 5 kr (L_nil (W_sg 14 kr (L_nil ?_)))
 refine W_cond false kr (fun e => by cases e) (fun _ => ?_)
 refine W_skip (W_seq (W_block (W_sg 1 kr (L_i (ctx) (0) (.bool false) rfl rfl kr kr rfl (by first | (simp; done) | (simp; omega)) (L_g 2 kr (L_want kr (L_i (ctx) (1048576) (.bool false) rfl rfl kr kr rfl (by first | (simp; done) | (simp; omega)) (L_g 2 kr (L_nil ?_)))))))))
 refine W_cond false kr (fun e => by cases e) (fun _ => ?_)
 refine W_sg 1 kr (L_i (tag) (0) (.bool false) rfl rfl kr kr rfl (by first | (simp; done) | (simp; omega)) (L_g 2 kr (L_want kr (L_i (tag) (1048576) (.bool false) rfl rfl kr kr rfl (by first | (simp; done) | (simp; omega)) (L_g 10 kr (L_nil ?_))))))
 refine W_cond false kr (fun e => by cases e) (fun _ => ?_)
 refine W_skip (W_sg 1 kr (L_nil (W_ret ?_)))
 repeat first | with_reducible refine then_ret ?_ | with_reducible refine blk_ret ?_
 refine done_of (v := nv 0) (.inl rfl) kr ?_
 exact ⟨rfl, T182⟩
theorem check_at {W : Wd} {G : Gh} {h : AH} {p : Nat} {ctx : Int} {tag : Int} (R : Rep W G h) (hp : p < W.n) (hc0 : 0 ≤ ctx) (hc1 : ctx ≤ 1048576) (ht0 : 0 ≤ tag) (ht1 : tag ≤ 1048576) :
  Arm.Calls Try.prog 30 [ptr (G.B .wd), nv (p : Int), nv (-1), nv ctx, nv tag, .bool true] h (fun r => r.1 = nv 0 ∧ Sm Nix h r.2) := by
 refine Calls_W 69 Try.f30 ?_
 have T0 : Sm Nix h h := .refl
 refine W_sg 1 kr (L_nil (W_seq (W_sg 2 kr (L_c rfl rfl kr (at_ok (R.ext T0) hp) ?_))))
 rintro v185 h185 ⟨e185, t185⟩
 try dsimp only at e185
 try dsimp only at t185
 subst e185
 have T185 := T0.ext t185
 have N185 := T185.nx
 have M185 := t185.nx
 refine L_g 5 kr (L_nil (W_sg 2 kr (L_nil ?_)))
 refine W_cond false kr (fun e => by cases e) (fun _ => ?_)
 refine W_skip (W_seq (W_sg 2 kr (L_c rfl rfl kr (at_no (R.ext T185) (x := -1) (.inl (by decide))) ?_)))
 rintro v186 h186 ⟨e186, t186⟩
 try dsimp only at e186
 try dsimp only at t186
 subst e186
 have T186 := T185.ext t186
 have N186 := T186.nx
 have M186 := t186.nx
 refine L_g 5 kr (L_nil (W_sg 14 kr (L_nil ?_)))
 refine W_cond false kr (fun e => by cases e) (fun _ => ?_)
 refine W_skip (W_seq (W_block (W_sg 1 kr (L_i (ctx) (0) (.bool false) rfl rfl kr kr rfl (by first | (simp; done) | (simp; omega)) (L_g 2 kr (L_want kr (L_i (ctx) (1048576) (.bool false) rfl rfl kr kr rfl (by first | (simp; done) | (simp; omega)) (L_g 2 kr (L_nil ?_)))))))))
 refine W_cond false kr (fun e => by cases e) (fun _ => ?_)
 refine W_sg 1 kr (L_i (tag) (0) (.bool false) rfl rfl kr kr rfl (by first | (simp; done) | (simp; omega)) (L_g 2 kr (L_want kr (L_i (tag) (1048576) (.bool false) rfl rfl kr kr rfl (by first | (simp; done) | (simp; omega)) (L_g 10 kr (L_nil ?_))))))
 refine W_cond false kr (fun e => by cases e) (fun _ => ?_)
 refine W_skip (W_sg 1 kr (L_nil (W_ret ?_)))
 repeat first | with_reducible refine then_ret ?_ | with_reducible refine blk_ret ?_
 refine done_of (v := nv 0) (.inl rfl) kr ?_
 exact ⟨rfl, T186⟩
theorem begin_ok {W : Wd} {G : Gh} {h : AH} {p : Nat} {r0 : Rq} {d : By} {s : Value} {W1 W2 W3 : Wd} (R : Rep W G h) (hp : p < W.n) (hfull : (W.pr p).reqs.length < 256) (hrd : r0.data = []) (hrp : r0.pcs = []) (hrs : r0.sent = []) (H : Rb h s (d.map bv)) (hs : ∀ b, vb s = some b → ¬ G.mut b) (he1 : W.call p = some W1) (he2 : W1.add p r0 = some W2) (he3 : W2.start p (W1.pr p).next d = some W3) :
  Arm.Calls Try.prog 31 [ptr (G.B .wd), nv (p : Int), .agg ⟨[nk r0.no, nv r0.peer, nv r0.ctx, nv r0.tag, nv r0.room, .bool r0.send, .bool r0.sync, .bool r0.pers, .bool r0.act, .bool r0.done, nk r0.parts, nk r0.size, .slice none 0 0, .slice none 0 0, nk r0.gone, .slice none 0 0, .bool r0.clr, nv r0.st.src, nv r0.st.tag, nv r0.st.size, nv r0.st.err]⟩, s] h (fun r => r.1 = .tuple ⟨[nk (W3.rq p (W1.pr p).next).no, nv 0]⟩ ∧ (∃ b S C ro, Rep W3 ⟨ups G.B (.rq p (W1.pr p).next) b, S, C, ro⟩ r.2 ∧ Gx G h ⟨ups G.B (.rq p (W1.pr p).next) b, S, C, ro⟩ r.2)) := by
 have hp1 : p < W1.n := by rw [Wd.call_n he1]; exact hp
 have hp2 : p < W2.n := by rw [Wd.add_n he2]; exact hp1
 have hp3 : p < W3.n := by rw [Wd.start_n he3]; exact hp2
 refine Calls_W 34 Try.f31 ?_
 have T0 : Sm Nix h h := .refl
 refine W_seq (W_region ?_)
 have m165 : ¬ (Gh.mut G) h.next ∧ ¬ (Gh.ro G) h.next := ⟨(R.ext T0).op.new (Nat.le_refl _), (R.ext T0).op.newr (Nat.le_refl _)⟩
 refine L_nwc [nk r0.no, nv r0.peer, nv r0.ctx, nv r0.tag, nv r0.room, .bool r0.send, .bool r0.sync, .bool r0.pers, .bool r0.act, .bool r0.done, nk r0.parts, nk r0.size, .slice none 0 0, .slice none 0 0, nk r0.gone, .slice none 0 0, .bool r0.clr, nv r0.st.src, nv r0.st.tag, nv r0.st.size, nv r0.st.err] .ptr rfl rfl kr fun h165 c165 t165 n165 => ?_
 have T165 := T0.ext t165
 have N165 := T165.nx
 refine L_g 2 kr (L_nil (W_seq (W_sg 2 kr (L_c rfl rfl kr (full_ok (R.ext T165) hp (b := false) (by simp; omega)) ?_))))
 rintro v166 h166 ⟨e166, t166⟩
 try dsimp only at e166
 try dsimp only at t166
 subst e166
 replace c165 := c165.ext t166
 have T166 := T165.ext t166
 have N166 := T166.nx
 have M166 := t166.nx
 refine L_g 1 kr (L_nil (W_sg 2 kr (L_nil ?_)))
 refine W_cond false kr (fun e => by cases e) (fun _ => ?_)
 refine W_skip (W_sg 2 kr (L_c rfl rfl kr (call_ok (R.ext T166) hp he1) ?_))
 rintro v167 h167 ⟨e167, N167⟩
 dsimp only at e167 N167
 subst e167
 obtain ⟨S167, C167, ro167, R167, Y167⟩ := N167
 have X167 := ((Gx.refl).trans (Gx.of T166)).trans Y167
 have m165_167 : ¬ (Gh.mut ⟨Gh.B G, S167, C167, ro167⟩) (h.next) ∧ ¬ (Gh.ro ⟨Gh.B G, S167, C167, ro167⟩) (h.next) := ⟨fun hm => (Y167.mu _ hm).elim m165.1 (fun e => by have := c165.lt; omega), fun hm => (Y167.ron _ hm).elim m165.2 (fun e => by have := c165.lt; omega)⟩
 replace c165 := c165.sm Y167.sm m165.1
 have T167 : Sm (Ow h (⟨Gh.B G, S167, C167, ro167⟩ : Gh)) h167 h167 := .refl
 refine L_nil (W_sg 2 kr (L_ld _ rfl rfl kr (Cl.allN (n := 21) c165 rfl kr) (L_c rfl rfl kr (add_ok (R167.ow T167) hp1 (r := r0) hrd hrp hrs he2) ?_)))
 rintro v9 h168 ⟨b9, S9, C9, ro9, R9, Y9, hr9, e9⟩
 dsimp only at R9 Y9 hr9 e9
 subst e9
 have X9 := ((X167).ow T167).trans Y9
 have eB9 : ups (Gh.B (⟨Gh.B G, S167, C167, ro167⟩ : Gh)) (.rq p (W1.pr p).next) b9 (.rq p (W1.pr p).next) = b9 := ups_at _ _ _
 replace c165 := c165
 have T168 : Sm (Ow h (⟨ups (Gh.B (⟨Gh.B G, S167, C167, ro167⟩ : Gh)) (.rq p (W1.pr p).next) b9, S9, C9, ro9⟩ : Gh)) h168 h168 := .refl
 refine L_g 1 kr (L_nil (W_seq (W_region (L_g 4 kr ?_))))
 have hst := start_ok (R9.ow T168) hp2 hr9 (H.sm (((X9).ow T168)).sm hs) he3
 rw [show Gh.B (⟨ups (Gh.B (⟨Gh.B G, S167, C167, ro167⟩ : Gh)) (.rq p (W1.pr p).next) b9, S9, C9, ro9⟩ : Gh) (.rq p (W1.pr p).next) = b9 from eB9] at hst
 refine L_c rfl rfl kr (hst) ?_
 rintro v169 h169 N169
 dsimp only at N169
 obtain ⟨S169, C169, ro169, R169, Y169⟩ := N169
 have X169 := ((X9).ow T168).trans Y169
 have T169 : Sm (Ow h (⟨Gh.B (⟨ups (Gh.B (⟨Gh.B G, S167, C167, ro167⟩ : Gh)) (.rq p (W1.pr p).next) b9, S9, C9, ro9⟩ : Gh), S169, C169, ro169⟩ : Gh)) h169 h169 := .refl
 have hrz := (Y169.keep _ hr9).1
 obtain ⟨dvz, hdz, cz⟩ := R169.rqL (p := p) hp3 hrz
 rw [show Gh.B (⟨ups (Gh.B G) (.rq p (W1.pr p).next) b9, S169, C169, ro169⟩ : Gh) (.rq p (W1.pr p).next) = b9 from eB9] at cz
 refine L_nil (W_sg 3 kr (L_ld _ rfl rfl kr ((cz.sm T169 (fun hx => hx.2.1 ⟨.rq p (W1.pr p).next, hrz, congrArg some eB9⟩)).ld (o := 0) kr rfl) (L_g 2 kr (L_nil (W_ret ?_)))))
 repeat first | with_reducible refine then_ret ?_ | with_reducible refine blk_ret ?_
 refine done_of (v := .tuple ⟨[nk (W3.rq p (W1.pr p).next).no, nv 0]⟩) (.inl rfl) kr ?_
 exact ⟨rfl, b9, _, _, _, (R169.ow T169), ((X169).ow T169)⟩
end
end Go.Proofs.Ytmehemeoaplepaa
namespace Go.Proofs.Ytmehemeoaplepaa
noncomputable section
open Go Go.X Go.Arm Go.Mt
theorem send1_ok {W : Wd} {G : Gh} {h : AH} {p q : Nat} {ctx tag : Int} {sync : Bool} {d : By} {s : Value} {W1 W2 W3 : Wd} (R : Rep W G h) (hp : p < W.n) (hq : q < W.n) (hc0 : 0 ≤ ctx) (hc1 : ctx ≤ 1048576) (ht0 : 0 ≤ tag) (ht1 : tag ≤ 1048576) (hfull : (W.pr p).reqs.length < 256) (hld : d.length ≤ 4096) (H : Rb h s (d.map bv)) (hs : ∀ b, vb s = some b → ¬ G.mut b) (he1 : W.call p = some W1) (he2 : W1.add p { no := 0, peer := (q : Int), ctx := ctx, tag := tag, room := 0, send := true, sync := sync, pers := false, act := false, done := false, parts := 0, size := 0, data := [], pcs := [], gone := 0, sent := [], clr := false, st := St.z } = some W2) (he3 : W2.start p (W1.pr p).next d = some W3) :
  Arm.Calls Try.prog 10 [ptr (G.B .wd), nv (p : Int), nv (q : Int), nv ctx, nv tag, s, .bool sync] h (fun r => r.1 = .tuple ⟨[nk (W3.rq p (W1.pr p).next).no, nv 0]⟩ ∧ (∃ b S C ro, Rep W3 ⟨ups G.B (.rq p (W1.pr p).next) b, S, C, ro⟩ r.2 ∧ Gx G h ⟨ups G.B (.rq p (W1.pr p).next) b, S, C, ro⟩ r.2)) := by
 refine Calls_W 40 Try.f10 ?_
 have T0 : Sm Nix h h := .refl
 refine W_sg 2 kr (L_nil (W_seq (W_sg 5 kr (L_c rfl rfl kr (check_qt (wild := false) (R.ext T0) hp hq hc0 hc1 ht0 ht1) ?_))))
 rintro v170 h170 ⟨e170, t170⟩
 try dsimp only at e170
 try dsimp only at t170
 subst e170
 have T170 := T0.ext t170
 have N170 := T170.nx
 have M170 := t170.nx
 refine L_g 1 kr (L_nil (W_sg 2 kr (L_nil ?_)))
 refine W_cond false kr (fun e => by cases e) (fun _ => ?_)
 refine W_skip (W_seq (W_sg 1 kr (L_ln _ rfl rfl kr (H.lenA (T := 23) (el := 5) kr _) (L_i (((List.map bv d).length : Int)) (4096) (.bool false) rfl rfl kr kr rfl (by simp; omega) (L_nil ?_)))))
 refine W_cond false kr (fun e => by cases e) (fun _ => ?_)
 refine W_skip (W_seq (W_region (L_g 8 kr ?_)))
 have TB9 := T170
 refine L_c rfl rfl kr (begin_ok (r0 := { no := 0, peer := (q : Int), ctx := ctx, tag := tag, room := 0, send := true, sync := sync, pers := false, act := false, done := false, parts := 0, size := 0, data := [], pcs := [], gone := 0, sent := [], clr := false, st := St.z }) (R.ext T170) hp hfull rfl rfl rfl (H.ext T170) hs he1 he2 he3) ?_
 rintro v171 h171 ⟨e171, b9, S9, C9, ro9, R9, Y9⟩
 dsimp only at e171 R9 Y9
 subst e171
 have T171 : Sm Nix h171 h171 := .refl
 refine L_g 4 kr (L_nil (W_ret ?_))
 repeat first | with_reducible refine then_ret ?_ | with_reducible refine blk_ret ?_
 refine done_of (v := .tuple ⟨[nk (W3.rq p (W1.pr p).next).no, nv 0]⟩) (.inl rfl) kr ?_
 exact ⟨rfl, b9, S9, C9, ro9, R9.ext T171, ((Gx.of TB9).trans Y9).ext T171⟩
theorem recv_at {W : Wd} {G : Gh} {h : AH} {p : Nat} {ctx tag : Int} {room : Int} {W1 W2 W3 : Wd} (R : Rep W G h) (hp : p < W.n) (hc0 : 0 ≤ ctx) (hc1 : ctx ≤ 1048576) (ht0 : 0 ≤ tag) (ht1 : tag ≤ 1048576) (hr0 : 0 ≤ room) (hr1 : room ≤ 4096) (hfull : (W.pr p).reqs.length < 256) (he1 : W.call p = some W1) (he2 : W1.add p { no := 0, peer := (-1), ctx := ctx, tag := tag, room := room, send := false, sync := false, pers := false, act := false, done := false, parts := 0, size := 0, data := [], pcs := [], gone := 0, sent := [], clr := false, st := St.z } = some W2) (he3 : W2.start p (W1.pr p).next [] = some W3) :
  Arm.Calls Try.prog 12 [ptr (G.B .wd), nv (p : Int), nv (-1), nv ctx, nv tag, nv room] h (fun r => r.1 = .tuple ⟨[nk (W3.rq p (W1.pr p).next).no, nv 0]⟩ ∧ (∃ b S C ro, Rep W3 ⟨ups G.B (.rq p (W1.pr p).next) b, S, C, ro⟩ r.2 ∧ Gx G h ⟨ups G.B (.rq p (W1.pr p).next) b, S, C, ro⟩ r.2)) := by
 refine Calls_W 40 Try.f12 ?_
 have T0 : Sm Nix h h := .refl
 refine W_sg 2 kr (L_nil (W_seq (W_sg 5 kr (L_c rfl rfl kr (check_at (R.ext T0) hp hc0 hc1 ht0 ht1) ?_))))
 rintro v178 h178 ⟨e178, t178⟩
 try dsimp only at e178
 try dsimp only at t178
 subst e178
 have T178 := T0.ext t178
 have N178 := T178.nx
 have M178 := t178.nx
 refine L_g 1 kr (L_nil (W_sg 2 kr (L_nil ?_)))
 refine W_cond false kr (fun e => by cases e) (fun _ => ?_)
 refine W_skip (W_seq (W_sg 1 kr (L_c rfl rfl kr (spac_ok hr0 hr1) ?_)))
 rintro v179 h179 ⟨e179, t179⟩
 try dsimp only at e179
 try dsimp only at t179
 subst e179
 have T179 := T178.ext t179
 have N179 := T179.nx
 have M179 := t179.nx
 refine L_g 1 kr (L_nil (W_sg 2 kr (L_nil ?_)))
 refine W_cond false kr (fun e => by cases e) (fun _ => ?_)
 refine W_skip (W_seq (W_region (L_g 7 kr ?_)))
 have TB9 := T179
 refine L_c rfl rfl kr (begin_ok (r0 := { no := 0, peer := (-1), ctx := ctx, tag := tag, room := room, send := false, sync := false, pers := false, act := false, done := false, parts := 0, size := 0, data := [], pcs := [], gone := 0, sent := [], clr := false, st := St.z }) (d := []) (R.ext T179) hp hfull rfl rfl rfl Rb.nil (fun b hb => by cases hb) he1 he2 he3) ?_
 rintro v180 h180 ⟨e180, b9, S9, C9, ro9, R9, Y9⟩
 dsimp only at e180 R9 Y9
 subst e180
 have T180 : Sm Nix h180 h180 := .refl
 refine L_g 4 kr (L_nil (W_ret ?_))
 repeat first | with_reducible refine then_ret ?_ | with_reducible refine blk_ret ?_
 refine done_of (v := .tuple ⟨[nk (W3.rq p (W1.pr p).next).no, nv 0]⟩) (.inl rfl) kr ?_
 exact ⟨rfl, b9, S9, C9, ro9, R9.ext T180, ((Gx.of TB9).trans Y9).ext T180⟩
end
end Go.Proofs.Ytmehemeoaplepaa

namespace Go.Proofs.Ytmehemeoaplepaa
noncomputable section
open Go Go.X Go.Arm Go.Mt
theorem evR_c4 {P : Program} {n : Nat} {f : Fr} {h : AH} {k i j l : Nat} {T : TypeId} {a : Addr} {v u x y : Value} (hk : Nat.blt k n = true) (hi : Nat.blt i n = true) (hj : Nat.blt j n = true) (hl' : Nat.blt l n = true) (hf : f k = .pointer (some a)) (hl : aLoad P T a h = some v) (h1 : f i = u) (h2 : f j = x) (h3 : f l = y) : evR P n f h [.cell k T, .tmp i, .tmp j, .tmp l] = some (.tuple ⟨[v, u, x, y]⟩) := by
 have e1 : evR1 P n f h (.cell k T) = some v := by unfold evR1; simp only [hk, hf]; exact hl
 have e2 : evR1 P n f h (.tmp i) = some u := by unfold evR1; simp only [hi, h1]
 have e3 : evR1 P n f h (.tmp j) = some x := by unfold evR1; simp only [hj, h2]
 have e4 : evR1 P n f h (.tmp l) = some y := by unfold evR1; simp only [hl', h3]
 unfold evR evRL evRL evRL evRL evRL
 rw [e1, e2, e3, e4]
theorem test_not {W : Wd} {G : Gh} {h : AH} {p no : Nat} {W1 : Wd} (R : Rep W G h) (hp : p < W.n) (hm : no ∈ (W.pr p).reqs) (hact : (W.rq p no).act = true) (he1 : W.call p = some W1) (hdone : (W1.rq p no).done = false) :
  Arm.Calls Try.prog 15 [ptr (G.B .wd), nv (p : Int), nv (no : Int)] h (fun r => r.1 = .tuple ⟨[.agg ⟨[nv 0, nv 0, nv 0, nv 0]⟩, .slice none 0 0, .bool false, nv 0]⟩ ∧ Nxt W1 G h r.2) := by
 have hp1 : p < W1.n := by rw [Wd.call_n he1]; exact hp
 have hr := (R.rel.pr p hp).rqp no hm
 refine Calls_W 53 Try.f15 ?_
 have T0 : Sm Nix h h := .refl
 refine W_seq (W_region ?_)
 have m216 : ¬ (Gh.mut G) h.next ∧ ¬ (Gh.ro G) h.next := ⟨(R.ext T0).op.new (Nat.le_refl _), (R.ext T0).op.newr (Nat.le_refl _)⟩
 refine L_nwc [nv 0, nv 0, nv 0, nv 0] .ptr rfl rfl kr fun h216 c216 t216 n216 => ?_
 have T216 := T0.ext t216
 have N216 := T216.nx
 refine L_g 3 kr (L_nil (W_sg 3 kr (L_c rfl rfl kr (begun_ok (R.ext T216) hp hm hact) ?_)))
 rintro v217 h217 ⟨e217, t217⟩
 try dsimp only at e217
 try dsimp only at t217
 subst e217
 replace c216 := c216.ext t217
 have T217 := T216.ext t217
 have N217 := T217.nx
 have M217 := t217.nx
 refine L_g 5 kr (L_nil (W_seq (W_sg 2 kr (L_nil ?_))))
 refine W_cond false kr (fun e => by cases e) (fun _ => ?_)
 refine W_skip (W_sg 2 kr (L_c rfl rfl kr (call_ok (R.ext T217) hp he1) ?_))
 rintro v218 h218 ⟨e218, N218⟩
 dsimp only at e218 N218
 subst e218
 obtain ⟨S218, C218, ro218, R218, Y218⟩ := N218
 have X218 := ((Gx.refl).trans (Gx.of T217)).trans Y218
 have hr_218 := (Y218.keep _ hr).1
 have m216_218 : ¬ (Gh.mut ⟨Gh.B G, S218, C218, ro218⟩) (h.next) ∧ ¬ (Gh.ro ⟨Gh.B G, S218, C218, ro218⟩) (h.next) := ⟨fun hm => (Y218.mu _ hm).elim m216.1 (fun e => by have := c216.lt; omega), fun hm => (Y218.ron _ hm).elim m216.2 (fun e => by have := c216.lt; omega)⟩
 replace c216 := c216.sm Y218.sm m216.1
 have T218 : Sm (Ow h (⟨Gh.B G, S218, C218, ro218⟩ : Gh)) h218 h218 := .refl
 obtain ⟨dvz, hdz, cz⟩ := R218.rqL (p := p) hp1 hr_218
 replace cz : Arm.Cl h218 (G.B (.rq p no)) [nk (W1.rq p no).no, nv (W1.rq p no).peer, nv (W1.rq p no).ctx, nv (W1.rq p no).tag, nv (W1.rq p no).room, .bool (W1.rq p no).send, .bool (W1.rq p no).sync, .bool (W1.rq p no).pers, .bool (W1.rq p no).act, .bool (W1.rq p no).done, nk (W1.rq p no).parts, nk (W1.rq p no).size, dvz, (⟨G.B, S218, C218, ro218⟩ : Gh).S (.pcs p no), nk (W1.rq p no).gone, (⟨G.B, S218, C218, ro218⟩ : Gh).S (.snt p no), .bool (W1.rq p no).clr, nv (W1.rq p no).st.src, nv (W1.rq p no).st.tag, nv (W1.rq p no).st.size, nv (W1.rq p no).st.err] := cz
 obtain ⟨da, dc, rfl⟩ := hdz.1.form
 refine L_nil (W_seq (W_sg 3 kr (L_ld _ rfl rfl kr (((cz.sm T218 (fun hx => hx.2.1 ⟨.rq p no, hr_218, rfl⟩)).ld (o := 9) kr (by rw [← hdone]; rfl) : aLoad Try.prog 4 ⟨G.B (.rq p no), 9, none⟩ h218 = some (.bool false))) (L_g 1 kr (L_nil ?_)))))
 refine W_cond true kr (fun _ => ?_) (fun e => by cases e)
 refine W_seq (W_region (L_g 1 kr ?_))
 obtain ⟨h219, e219, d219, t219, n219⟩ := c216.sA 43 [nv 0, nv 0, nv 0, nv 0]
 replace c216 := d219
 have T219 : Sm (Ow h (⟨Gh.B G, S218, C218, ro218⟩ : Gh)) h218 h219 := T218.trans t219 (fun x hx => by have hx : x = h.next := hx; subst hx; first | exact .inr (by omega) | exact .inl ⟨by omega, m216_218.1, m216_218.2⟩ | exact .inl rfl)
 have N219 := T219.nx
 refine L_st _ rfl rfl rfl kr kr (e219) (L_g 3 kr (L_nil (W_ret ?_)))
 repeat first | with_reducible refine then_ret ?_ | with_reducible refine blk_ret ?_
 refine done_of (.inl rfl) (evR_c4 kr kr kr kr (a := ⟨h.next, 0, none⟩) kr (Cl.allN (n := 4) c216 rfl kr) (u := .slice none 0 0) kr (x := .bool false) kr (y := nv 0) kr) ?_
 exact ⟨rfl, _, _, _, (R218.ow T219), ((X218).ow T219)⟩
theorem test_recv {W : Wd} {G : Gh} {h : AH} {p no : Nat} {W1 : Wd} (R : Rep W G h) (hp : p < W.n) (hm : no ∈ (W.pr p).reqs) (hact : (W.rq p no).act = true) (he1 : W.call p = some W1) (hdone : (W1.rq p no).done = true) (hsd : (W1.rq p no).send = false) (hdl : (W1.rq p no).data.length < big) :
  Arm.Calls Try.prog 15 [ptr (G.B .wd), nv (p : Int), nv (no : Int)] h (fun r => ∃ v, r.1 = .tuple ⟨[.agg ⟨[nv (W1.rq p no).st.src, nv (W1.rq p no).st.tag, nv (W1.rq p no).st.size, nv (W1.rq p no).st.err]⟩, v, .bool true, nv 0]⟩ ∧ Rb r.2 v ((W1.rq p no).data.map bv) ∧ (∀ b, vb v = some b → h.next ≤ b) ∧ Nxt (W1.over p no) G h r.2) := by
 have hp1 : p < W1.n := by rw [Wd.call_n he1]; exact hp
 have hr := (R.rel.pr p hp).rqp no hm
 refine Calls_W 53 Try.f15 ?_
 have T0 : Sm Nix h h := .refl
 refine W_seq (W_region ?_)
 have m225 : ¬ (Gh.mut G) h.next ∧ ¬ (Gh.ro G) h.next := ⟨(R.ext T0).op.new (Nat.le_refl _), (R.ext T0).op.newr (Nat.le_refl _)⟩
 refine L_nwc [nv 0, nv 0, nv 0, nv 0] .ptr rfl rfl kr fun h225 c225 t225 n225 => ?_
 have T225 := T0.ext t225
 have N225 := T225.nx
 refine L_g 3 kr (L_nil (W_sg 3 kr (L_c rfl rfl kr (begun_ok (R.ext T225) hp hm hact) ?_)))
 rintro v226 h226 ⟨e226, t226⟩
 try dsimp only at e226
 try dsimp only at t226
 subst e226
 replace c225 := c225.ext t226
 have T226 := T225.ext t226
 have N226 := T226.nx
 have M226 := t226.nx
 refine L_g 5 kr (L_nil (W_seq (W_sg 2 kr (L_nil ?_))))
 refine W_cond false kr (fun e => by cases e) (fun _ => ?_)
 refine W_skip (W_sg 2 kr (L_c rfl rfl kr (call_ok (R.ext T226) hp he1) ?_))
 rintro v227 h227 ⟨e227, N227⟩
 dsimp only at e227 N227
 subst e227
 obtain ⟨S227, C227, ro227, R227, Y227⟩ := N227
 have X227 := ((Gx.refl).trans (Gx.of T226)).trans Y227
 have hr_227 := (Y227.keep _ hr).1
 have m225_227 : ¬ (Gh.mut ⟨Gh.B G, S227, C227, ro227⟩) (h.next) ∧ ¬ (Gh.ro ⟨Gh.B G, S227, C227, ro227⟩) (h.next) := ⟨fun hm => (Y227.mu _ hm).elim m225.1 (fun e => by have := c225.lt; omega), fun hm => (Y227.ron _ hm).elim m225.2 (fun e => by have := c225.lt; omega)⟩
 replace c225 := c225.sm Y227.sm m225.1
 have T227 : Sm (Ow h (⟨Gh.B G, S227, C227, ro227⟩ : Gh)) h227 h227 := .refl
 obtain ⟨dvz, hdz, cz⟩ := R227.rqL (p := p) hp1 hr_227
 replace cz : Arm.Cl h227 (G.B (.rq p no)) [nk (W1.rq p no).no, nv (W1.rq p no).peer, nv (W1.rq p no).ctx, nv (W1.rq p no).tag, nv (W1.rq p no).room, .bool (W1.rq p no).send, .bool (W1.rq p no).sync, .bool (W1.rq p no).pers, .bool (W1.rq p no).act, .bool (W1.rq p no).done, nk (W1.rq p no).parts, nk (W1.rq p no).size, dvz, (⟨G.B, S227, C227, ro227⟩ : Gh).S (.pcs p no), nk (W1.rq p no).gone, (⟨G.B, S227, C227, ro227⟩ : Gh).S (.snt p no), .bool (W1.rq p no).clr, nv (W1.rq p no).st.src, nv (W1.rq p no).st.tag, nv (W1.rq p no).st.size, nv (W1.rq p no).st.err] := cz
 obtain ⟨da, dc, rfl⟩ := hdz.1.form
 refine L_nil (W_seq (W_sg 3 kr (L_ld _ rfl rfl kr (((cz.sm T227 (fun hx => hx.2.1 ⟨.rq p no, hr_227, rfl⟩)).ld (o := 9) kr (by rw [← hdone]; rfl) : aLoad Try.prog 4 ⟨G.B (.rq p no), 9, none⟩ h227 = some (.bool true))) (L_g 1 kr (L_nil ?_)))))
 refine W_cond false kr (fun e => by cases e) (fun _ => ?_)
 refine W_skip (W_sg 3 kr (L_c rfl rfl kr (over_ok (R227.ow T227) hp1 hr_227) ?_))
 rintro v228 h228 N228
 dsimp only at N228
 obtain ⟨S228, C228, ro228, R228, Y228⟩ := N228
 have X228 := ((X227).ow T227).trans Y228
 have hr_228 := (Y228.keep _ hr_227).1
 have m225_227_228 : ¬ (Gh.mut ⟨Gh.B (⟨Gh.B G, S227, C227, ro227⟩ : Gh), S228, C228, ro228⟩) (h.next) ∧ ¬ (Gh.ro ⟨Gh.B (⟨Gh.B G, S227, C227, ro227⟩ : Gh), S228, C228, ro228⟩) (h.next) := ⟨fun hm => (Y228.mu _ hm).elim m225_227.1 (fun e => by have := c225.lt; omega), fun hm => (Y228.ron _ hm).elim m225_227.2 (fun e => by have := c225.lt; omega)⟩
 replace c225 := c225.sm Y228.sm m225_227.1
 have T228 : Sm (Ow h (⟨Gh.B (⟨Gh.B G, S227, C227, ro227⟩ : Gh), S228, C228, ro228⟩ : Gh)) h228 h228 := .refl
 have eo : (W1.over p no).rq p no = { W1.rq p no with act := false } := Wd.over_rq W1 p no
 have hp2 : p < (W1.over p no).n := by rw [Wd.over_n]; exact hp1
 obtain ⟨dvy, hdy, cy⟩ := R228.rqL (p := p) hp2 hr_228
 rw [eo] at hdy cy
 replace cy : Arm.Cl h228 (G.B (.rq p no)) [nk (W1.rq p no).no, nv (W1.rq p no).peer, nv (W1.rq p no).ctx, nv (W1.rq p no).tag, nv (W1.rq p no).room, .bool (W1.rq p no).send, .bool (W1.rq p no).sync, .bool (W1.rq p no).pers, .bool false, .bool (W1.rq p no).done, nk (W1.rq p no).parts, nk (W1.rq p no).size, dvy, (⟨G.B, S228, C228, ro228⟩ : Gh).S (.pcs p no), nk (W1.rq p no).gone, (⟨G.B, S228, C228, ro228⟩ : Gh).S (.snt p no), .bool (W1.rq p no).clr, nv (W1.rq p no).st.src, nv (W1.rq p no).st.tag, nv (W1.rq p no).st.size, nv (W1.rq p no).st.err] := cy
 obtain ⟨ea, ec, rfl⟩ := hdy.1.form
 refine L_nil (W_seq (W_sg 3 kr (L_ld _ rfl rfl kr (((cy.sm T228 (fun hx => hx.2.1 ⟨.rq p no, hr_228, rfl⟩)).ld (o := 5) kr (by rw [← hsd]; rfl) : aLoad Try.prog 4 ⟨G.B (.rq p no), 5, none⟩ h228 = some (.bool false))) (L_nil ?_))))
 refine W_cond false kr (fun e => by cases e) (fun _ => ?_)
 refine W_skip (W_seq (W_drawn kr (D_e (e := 8) (l := [0,1,2,3,4,5,6,7]) (s' := [0,1,2,3]) kr kr rfl kr Rk_nil (NS_b 3 kr (NS_ld _ rfl rfl kr kr kr ((cy.sm T228 (fun hx => hx.2.1 ⟨.rq p no, hr_228, rfl⟩)).ldS (k := 4) (o := 17) kr (by simp)) (NS_b 3 kr (NS_ld _ rfl rfl kr kr kr ((cy.sm T228 (fun hx => hx.2.1 ⟨.rq p no, hr_228, rfl⟩)).ld (o := 12) kr rfl) (NS_nil (L_c rfl rfl kr (clone_by (hdy.ext3 T228).1 (bv_one _) (by rw [List.length_map]; exact hdl)) ?_)))))))))
 rintro v229 h229 ⟨r229, k229, t229, f229, s229⟩
 dsimp only at r229 k229 t229 f229 s229
 have l6 := c225.lt
 have hne9 : ∀ b, vb v229 = some b → ¬ b = h.next := fun b hb e => by have := (f229 b hb).1; omega
 have hlo9 : ∀ b, vb v229 = some b → h.next ≤ b := fun b hb => Nat.le_trans (((X228).ow T228)).sm.nx (f229 b hb).1
 replace c225 := c225.ext t229
 have T229 : Sm (Ow h (⟨Gh.B (⟨Gh.B G, S227, C227, ro227⟩ : Gh), S228, C228, ro228⟩ : Gh)) h228 h229 := T228.ext t229
 have N229 := T229.nx
 have U229 : Sm (fun c => c = h.next) h229 h229 := .refl
 refine L_nil ⟨rfl, ?_⟩
 refine D_e (e := 9) (l := []) (s' := []) kr kr rfl kr (Rk_1 rfl rfl (Rk_1 rfl rfl (Rk_1 rfl rfl (Rk_ld _ rfl rfl rfl kr ((cy.sm T229 (fun hx => hx.2.1 ⟨.rq p no, hr_228, rfl⟩)).ldS (k := 4) (o := 17) kr (by simp)) kr Rk_nil)))) (NS_nil ?_)
 obtain ⟨h230, e230, d230, t230, n230⟩ := c225.sA 43 [nv (W1.rq p no).st.src, nv (W1.rq p no).st.tag, nv (W1.rq p no).st.size, nv (W1.rq p no).st.err]
 replace c225 := d230
 have T230 : Sm (Ow h (⟨Gh.B (⟨Gh.B G, S227, C227, ro227⟩ : Gh), S228, C228, ro228⟩ : Gh)) h228 h230 := T229.trans t230 (fun x hx => by have hx : x = h.next := hx; subst hx; first | exact .inr (by omega) | exact .inl ⟨by omega, m225_227_228.1, m225_227_228.2⟩ | exact .inl rfl)
 have U230 : Sm (fun c => c = h.next) h229 h230 := U229.trans t230 (fun x hx => by have hx : x = h.next := hx; subst hx; first | exact .inr (by omega) | exact .inl ⟨by omega, m225_227_228.1, m225_227_228.2⟩ | exact .inl rfl)
 have N230 := T230.nx
 have NU230 := U230.nx
 refine L_st _ rfl rfl rfl kr kr (e230) ?_
 refine L_nil ⟨rfl, ?_⟩
 refine D_l (l := [10,11,12]) kr kr Rk_nil (NS_b 3 kr (NS_nil (W_ret ?_)))
 repeat first | with_reducible refine then_ret ?_ | with_reducible refine blk_ret ?_
 refine done_of (.inl rfl) (evR_c4 kr kr kr kr (a := ⟨h.next, 0, none⟩) kr (Cl.allN (n := 4) c225 rfl kr) (u := v229) kr (x := .bool true) kr (y := nv 0) kr) ?_
 exact ⟨v229, rfl, r229.sm U230 (fun b hb => hne9 b hb), hlo9, _, _, _, (R228.ow T230), ((X228).ow T230)⟩
end
end Go.Proofs.Ytmehemeoaplepaa
namespace Go.Proofs.Ytmehemeoaplepaa
noncomputable section
open Go Go.X Go.Arm Go.Mt
theorem look_way {W : Wd} {G : Gh} {h : AH} {a b : Int} (R : Rep W G h) : aLookup Try.prog 73 (.map (some (G.B .ways))) (k2 (a, b)) false h = some (G.S (.way a b)) := by
 obtain ⟨m, hm, hmb, hmC, hmS⟩ := R.ways
 rcases hm.lookup (P := Try.prog) (T := 73) (kt := 96) (el := 97) (z := .slice none 0 0) kr k_way kr (a, b) false with ⟨h1, h2⟩ | ⟨v, y, h1, h2, h3⟩
 · rw [← hmS a b, h1]; exact h2
 · rw [← hmS a b, h1, ← h2]; exact h3
theorem deliver_no {W : Wd} {G : Gh} {h : AH} {a b : Nat} (R : Rep W G h) (ha : a < W.n) (hb : b < W.n) (hw : W.way a b = []) :
  Arm.Calls Try.prog 13 [ptr (G.B .wd), nv (a : Int), nv (b : Int)] h (fun r => r.1 = .tuple ⟨[.bool false, nv 0]⟩ ∧ Sm Nix h r.2) := by
 obtain ⟨csg, hgw, lsg⟩ := R.way (a : Int) (b : Int)
 refine Calls_W 71 Try.f13 ?_
 have T0 : Sm Nix h h := .refl
 refine W_sg 2 kr (L_nil (W_seq (W_sg 3 kr (L_c rfl rfl kr (chan_ok (R.ext T0) ha hb) ?_))))
 rintro v237 h237 ⟨e237, t237⟩
 try dsimp only at e237
 try dsimp only at t237
 subst e237
 have T237 := T0.ext t237
 have N237 := T237.nx
 have M237 := t237.nx
 refine L_g 1 kr (L_nil (W_sg 2 kr (L_nil ?_)))
 refine W_cond false kr (fun e => by cases e) (fun _ => ?_)
 refine W_skip (W_seq (W_region (L_g 3 kr ?_)))
 have m238 : ¬ (Gh.mut G) h237.next ∧ ¬ (Gh.ro G) h237.next := ⟨(R.ext T237).op.new (Nat.le_refl _), (R.ext T237).op.newr (Nat.le_refl _)⟩
 refine L_nwc [nv 0, nv 0] .ptr rfl rfl kr fun h238 c238 t238 n238 => ?_
 have T238 := T237.ext t238
 have N238 := T238.nx
 obtain ⟨h239, e239, d239, t239, n239⟩ := c238.sA 96 [nv (a : Int), nv (b : Int)]
 replace c238 := d239
 have T239 := T238.tr t239
 have N239 := T239.nx
 refine L_st _ rfl rfl rfl kr kr (e239) (L_nil (W_seq (W_seq (W_drawn kr (D_l (l := [0,1,2,3,4,5,6,7]) kr kr Rk_nil (NS_b 3 kr (NS_ld _ rfl rfl kr kr kr ((R.ext T239).wdL.ld (o := 2) kr rfl) (NS_ld _ rfl rfl kr kr kr (Cl.allN (n := 2) c238 rfl kr) (NS_lk _ rfl rfl kr kr kr kr (look_way (a := (a : Int)) (b := (b : Int)) (R.ext T239)) (NS_ln _ rfl rfl kr kr kr ((hgw.ext T239).lenV (T := 97) (el := 99) kr) (NS_i (((W.way a b).length : Int)) (0) (.bool true) rfl rfl kr kr kr kr rfl (by rw [hw]; rfl) ?_)))))))))))
 refine NS_nil ?_
 refine W_cond true kr (fun _ => ?_) (fun e => by cases e)
 refine W_sg 2 kr (L_nil (W_ret ?_))
 repeat first | with_reducible refine then_ret ?_ | with_reducible refine blk_ret ?_
 refine done_of (v := .tuple ⟨[.bool false, nv 0]⟩) (.inl rfl) kr ?_
 exact ⟨rfl, T239⟩
set_option maxHeartbeats 1000000 in
theorem deliver_ok {W : Wd} {G : Gh} {h : AH} {a b : Nat} {x : Pk} {l : List Pk} (R : Rep W G h) (ha : a < W.n) (hb : b < W.n) (hw : W.way a b = x :: l) (hbig : (W.pr b).inb.length < big) :
  Arm.Calls Try.prog 13 [ptr (G.B .wd), nv (a : Int), nv (b : Int)] h (fun r => r.1 = .tuple ⟨[.bool true, nv 0]⟩ ∧ Nxt ((W.setWay a b l).setPr b { W.pr b with inb := (W.pr b).inb ++ [((a : Int), x)] }) G h r.2) := by
 have hbig : (W.pr b).inb.length < 1000000000 := hbig
 obtain ⟨csg, hgw, lsg⟩ := R.way (a : Int) (b : Int)
 obtain ⟨c0, ⟨v0, hv0, rfl⟩, hcl0, hcc0⟩ := lsg.get (i := 0) (x := x) (by rw [hw]; rfl)
 obtain ⟨ty, u, rfl⟩ := hv0.iface
 have hc0 : csg[0 * 1 + 0]? = some (Value.iface ty u) := hcc0 0 (by decide)
 refine Calls_W 71 Try.f13 ?_
 have T0 : Sm Nix h h := .refl
 refine W_sg 2 kr (L_nil (W_seq (W_sg 3 kr (L_c rfl rfl kr (chan_ok (R.ext T0) ha hb) ?_))))
 rintro v240 h240 ⟨e240, t240⟩
 try dsimp only at e240
 try dsimp only at t240
 subst e240
 have T240 := T0.ext t240
 have N240 := T240.nx
 have M240 := t240.nx
 refine L_g 1 kr (L_nil (W_sg 2 kr (L_nil ?_)))
 refine W_cond false kr (fun e => by cases e) (fun _ => ?_)
 refine W_skip (W_seq (W_region (L_g 3 kr ?_)))
 have m241 : ¬ (Gh.mut G) h240.next ∧ ¬ (Gh.ro G) h240.next := ⟨(R.ext T240).op.new (Nat.le_refl _), (R.ext T240).op.newr (Nat.le_refl _)⟩
 refine L_nwc [nv 0, nv 0] .ptr rfl rfl kr fun h241 c241 t241 n241 => ?_
 have T241 := T240.ext t241
 have N241 := T241.nx
 obtain ⟨h242, e242, d242, t242, n242⟩ := c241.sA 96 [nv (a : Int), nv (b : Int)]
 replace c241 := d242
 have T242 := T241.tr t242
 have N242 := T242.nx
 refine L_st _ rfl rfl rfl kr kr (e242) (L_nil (W_seq (W_seq (W_drawn kr (D_l (l := [0,1,2,3,4,5,6,7]) kr kr Rk_nil (NS_b 3 kr (NS_ld _ rfl rfl kr kr kr ((R.ext T242).wdL.ld (o := 2) kr rfl) (NS_ld _ rfl rfl kr kr kr (Cl.allN (n := 2) c241 rfl kr) (NS_lk _ rfl rfl kr kr kr kr (look_way (a := (a : Int)) (b := (b : Int)) (R.ext T242)) (NS_ln _ rfl rfl kr kr kr ((hgw.ext T242).lenV (T := 97) (el := 99) kr) (NS_i (((W.way a b).length : Int)) (0) (.bool false) rfl rfl kr kr kr kr rfl (by rw [hw]; simp; omega) ?_)))))))))))
 refine NS_nil ?_
 refine W_cond false kr (fun e => by cases e) (fun _ => ?_)
 refine W_skip (W_seq (W_drawn kr (D_e (e := 28) (l := [0,1,2,3,4,5,6,7,8,9,10,11,12,13,14,15,16,17,18,19,20,21,22,23,24,25,26,27]) (s' := [0,1,2,3,4,5,6]) kr kr rfl kr Rk_nil (NS_b 3 kr (NS_ld _ rfl rfl kr kr kr ((R.ext T242).wdL.ld (o := 1) kr rfl) (NS_b 1 kr ?_))))))
 obtain ⟨b1, o1, i1, l1, v1⟩ := (R.ext T242).prsAt2 (P := Try.prog) (T := 74) (el := 77) kr kr kr hb
 have lt1 := (R.ext T242).prsL.lt v1
 refine NS_ix _ rfl rfl kr kr kr kr (i1) (NS_ld _ rfl rfl kr kr kr (l1) (NS_b 3 kr (NS_ld _ rfl rfl kr kr kr ((R.ext T242).wdL.ld (o := 1) kr rfl) (NS_b 1 kr (NS_ix _ rfl rfl kr kr kr kr (i1) (NS_ld _ rfl rfl kr kr kr (l1) (NS_b 2 kr (NS_ld _ rfl rfl kr kr kr (((R.ext T242).prL hb).ld (o := 3) kr rfl) (NS_b 4 kr (NS_ld _ rfl rfl kr kr kr ((R.ext T242).wdL.ld (o := 2) kr rfl) (NS_ld _ rfl rfl kr kr kr (Cl.allN (n := 2) c241 rfl kr) ?_)))))))))))
 refine NS_lk _ rfl rfl kr kr kr kr (look_way (a := (a : Int)) (b := (b : Int)) (R.ext T242)) ?_
 obtain ⟨b9, o9, v9, i9, l9⟩ := (hgw.sd.ext T242).at (P := Try.prog) (T := 97) (el := 99) kr kr (show 0 < (W.way a b).length by rw [hw]; simp) .i64
 have lt9 := (hgw.ext T242).lt v9
 refine NS_ix _ rfl rfl kr kr kr kr (i9) (NS_ld _ rfl rfl kr kr kr (ld_cell kr (by have := l9 0 (by decide); rw [this]; exact hc0)) (NS_b 1 kr ?_))
 have m243 : ¬ (Gh.mut G) h242.next ∧ ¬ (Gh.ro G) h242.next := ⟨(R.ext T242).op.new (Nat.le_refl _), (R.ext T242).op.newr (Nat.le_refl _)⟩
 refine NS_nwc [nv (a : Int), .iface ty u] (.sl 1 1) rfl kr rfl rfl kr (Rk_1 rfl rfl (Rk_1 rfl rfl (Rk_1 rfl rfl (Rk_ld _ rfl rfl rfl kr ((R.ext (T242.ext (.push h242 _))).wdL.ld (o := 1) kr rfl) kr (Rk_1 rfl rfl (Rk_1 rfl rfl (Rk_ld _ rfl rfl rfl kr (ldx (l1) (lt1) (.push h242 _)) kr (Rk_1 rfl rfl (Rk_1 rfl rfl (Rk_1 rfl rfl (Rk_ld _ rfl rfl rfl kr ((R.ext (T242.ext (.push h242 _))).wdL.ld (o := 1) kr rfl) kr (Rk_1 rfl rfl (Rk_1 rfl rfl (Rk_ld _ rfl rfl rfl kr (ldx (l1) (lt1) (.push h242 _)) kr (Rk_1 rfl rfl (Rk_1 rfl rfl (Rk_ld _ rfl rfl rfl kr (((R.ext (T242.ext (.push h242 _))).prL hb).ld (o := 3) kr rfl) kr (Rk_1 rfl rfl (Rk_1 rfl rfl (Rk_1 rfl rfl (Rk_1 rfl rfl (Rk_ld _ rfl rfl rfl kr ((R.ext (T242.ext (.push h242 _))).wdL.ld (o := 2) kr rfl) kr (Rk_ld _ rfl rfl rfl kr (Cl.allN (n := 2) (c241.ext (.push h242 _)) rfl kr) kr (Rk_lk _ rfl rfl rfl kr kr (look_way (a := (a : Int)) (b := (b : Int)) (R.ext (T242.ext (.push h242 _)))) kr (Rk_1 rfl rfl (Rk_ld _ rfl rfl rfl kr (ldx (ld_cell kr (by have := l9 0 (by decide); rw [this]; exact hc0)) (lt9) (.push h242 _)) kr (Rk_1 rfl rfl (Rk_1 rfl rfl Rk_nil)))))))))))))))))))))))))))) fun h243 c243 t243 n243 => ?_
 replace c241 := c241.ext t243
 have T243 := T242.ext t243
 have N243 := T243.nx
 refine NS_nil ?_
 obtain ⟨csi, gi, lsi⟩ := (R.ext T243).inb hb
 obtain ⟨v244, h244, e244, g244, t244, f244⟩ := gi.append (P := Try.prog) (sT := 81) (xT := 81) (el := 101) (by_ := 24) (z := (.agg ⟨[.int .i64 0, .nilIface]⟩)) (m := 1) (ds := [nv (a : Int), .iface ty u]) kr kr kr kr kr rfl (by decide) (cl_sdk 2 c243 rfl) (List.all_eq_true.1 rfl) (by omega)
 obtain ⟨va, vc, rfl⟩ := g244.sd.form
 have l9' := c241.lt
 have inbC : G.C (.inb b) ≠ .no := by obtain ⟨cs, e, _⟩ := (R.rel.pr b hb).inb; rw [e]; simp
 have hnw1 : ¬ vb (G.S (.inb b)) = some (G.B .wd) := fun e => R.op.ne (r := .inb b) (r' := .wd) inbC (by rw [R.rel.wd]; simp) (by simp) (vb_vbx e) rfl
 have hnw2 : ∀ x, vb (G.S (.inb b)) = some x → ¬ vb (G.S .prs) = some x := fun x e e2 => R.op.ne (r := .inb b) (r' := .prs) inbC (by rw [R.rel.prs]; simp) (by simp) (vb_vbx e) (vb_vbx e2)
 have mK9 := m241
 have mK5 := m243
 refine L_bi (.slice va ((W.pr b).inb.length + 1) vc) h244 rfl rfl kr (vs := [G.S (.inb b), .slice (some ⟨h242.next, 0, none⟩) 1 1]) kr (bi_append e244) ?_
 replace c241 := c241.sm t244 (by first | exact fun e => mK9.1 ⟨.inb b, inbC, vb_vbx e⟩ | exact fun e => mK5.1 ⟨.inb b, inbC, vb_vbx e⟩)
 have T244 : Sm (fun c => vb (G.S (.inb b)) = some c) h243 h244 := t244
 have N244 := T244.nx
 refine L_nil ⟨rfl, ?_⟩
 refine D_e (e := 31) (l := [29,30]) (s' := []) kr kr rfl kr (Rk_1 rfl rfl (Rk_1 rfl rfl (Rk_1 rfl rfl (Rk_ld _ rfl rfl rfl kr (((R.ext T243).wdL.sm T244 hnw1).ld (o := 1) kr rfl) kr (Rk_1 rfl rfl (Rk_1 rfl rfl (Rk_ld _ rfl rfl rfl kr (ld_sm kr (ld_sm kr l1 t243 lt1 (fun x => x)) T244 (Nat.lt_of_lt_of_le lt1 (t243).nx) (fun e => hnw2 b1 e v1)) kr Rk_nil))))))) (NS_b 2 kr (NS_nil ?_))
 have Rb := R.ext T243
 have hnw : ¬ vb (G.S (.inb b)) = some (G.B (.pr b)) := fun e => Rb.op.ne (r := .inb b) (r' := .pr b) (by obtain ⟨cs, e, _⟩ := (Rb.rel.pr b hb).inb; rw [e]; simp) (by rw [(Rb.rel.pr b hb).pr]; simp) (by simp) (vb_vbx e) rfl
 obtain ⟨h245, e245, d245, t245, n245⟩ := ((Rb.prL hb).sm T244 hnw).store (P := Try.prog) (T := 81) (o := 3) (v := .slice va ((W.pr b).inb.length + 1) vc) kr rfl rfl (by simp [prC])
 have hlen : ((W.pr b).inb ++ [((a : Int), x)]).length = (W.pr b).inb.length + 1 := by simp
 rw [← hlen] at d245
 have hN := Rb.setInb hb (l := (W.pr b).inb ++ [((a : Int), x)]) (lsi.app (Ls.one ⟨_, hv0.mono (R.op.dr (T243).of), rfl⟩ rfl)) (by rw [hlen]; exact g244) T244 (fun c hc => .inl hc) (fun c hc => by rw [hlen] at hc; exact f244 c hc) d245 t245
 obtain ⟨S9, C9, ro9, R9, Y9⟩ := hN
 have X9 := (Gx.of T243).trans Y9
 have l99 := c241.lt
 have mA9 : ¬ (Gh.mut ⟨G.B, S9, C9, ro9⟩) (h240.next) ∧ ¬ ro9 (h240.next) := ⟨fun hm => (Y9.mu _ hm).elim mK9.1 (fun e => by omega), fun hm => (Y9.ron _ hm).elim mK9.2 (fun e => by omega)⟩
 have hpl := R.prLt hb
 refine L_st _ rfl rfl rfl kr kr (e245) ?_
 replace c241 := c241.sn t245
 have T245 : Sm (Ow h ⟨G.B, S9, C9, ro9⟩) h245 h245 := .refl
 refine L_nil ⟨rfl, ?_⟩
 refine D_l (l := []) kr kr Rk_nil (NS_nil (W_seq (W_drawn kr (D_e (e := 12) (l := [0,1,2,3,4,5,6,7,8,9,10,11]) (s' := []) kr kr rfl kr Rk_nil (NS_b 3 kr (NS_ld _ rfl rfl kr kr kr ((R9.ow T245).wdL.ld (o := 2) kr rfl) (NS_ld _ rfl rfl kr kr kr (Cl.allN (n := 2) c241 rfl kr) (NS_b 3 kr (NS_ld _ rfl rfl kr kr kr ((R9.ow T245).wdL.ld (o := 2) kr rfl) (NS_ld _ rfl rfl kr kr kr (Cl.allN (n := 2) c241 rfl kr) (NS_lk _ rfl rfl kr kr kr kr (look_way (a := (a : Int)) (b := (b : Int)) (R9.ow T245)) ?_)))))))))))
 obtain ⟨csw, gw, lsw⟩ := (R9.ow T245).way (a : Int) (b : Int)
 have gw : Gr h245 1 (S9 (.way (a : Int) (b : Int))) (W.way a b).length csw := gw
 have lsw : Ls (RPk h245 ro9) 1 (W.way a b) csw := lsw
 rw [hw] at gw lsw
 obtain ⟨vt, et, gt, bt⟩ := gw.tailK (P := Try.prog) (T := 97) (el := 99) kr kr
 obtain ⟨cw, _, hcl9, _, lst⟩ := lsw.tail
 refine NS_sl _ rfl rfl kr kr kr kr kr kr (et) (NS_nil ?_)
 obtain ⟨m9, hm9, hmb9, hmC9, hmN9, hmS9⟩ := (R9.ow T245).waysN
 obtain ⟨h246, e246, mp246, t246, n246⟩ := hm9.update (P := Try.prog) (T := 73) (el := 97) kr k_way ((a : Int), (b : Int)) (v := vt) (y := vt) rfl
 have N246 : Nxt ((W.setPr b { W.pr b with inb := (W.pr b).inb ++ [((a : Int), x)] }).setWay a b l) (⟨G.B, S9, C9, ro9⟩ : Gh) h245 h246 := (R9.ow T245).setWay a b (l := l) (v := vt) (kset_nodup hmN9 _ _) (hw_kset (G := (⟨G.B, S9, C9, ro9⟩ : Gh)) hmS9) lst gt Sm.refl (fun c hc => (show False from hc).elim) (fun c hc => .inl (bt ▸ hc)) mp246 (hmb9.update e246) t246
 refine L_mu _ rfl rfl rfl kr kr kr e246 ?_
 obtain ⟨S246, C246, ro246, R246, Y246⟩ := N246
 have X246 := ((X9).ow T245).trans Y246
 have mA9_246 : ¬ (Gh.mut ⟨Gh.B (⟨G.B, S9, C9, ro9⟩ : Gh), S246, C246, ro246⟩) (h240.next) ∧ ¬ (Gh.ro ⟨Gh.B (⟨G.B, S9, C9, ro9⟩ : Gh), S246, C246, ro246⟩) (h240.next) := ⟨fun hm => (Y246.mu _ hm).elim mA9.1 (fun e => by have := c241.lt; omega), fun hm => (Y246.ron _ hm).elim mA9.2 (fun e => by have := c241.lt; omega)⟩
 have T246 : Sm (Ow h (⟨Gh.B (⟨G.B, S9, C9, ro9⟩ : Gh), S246, C246, ro246⟩ : Gh)) h246 h246 := .refl
 refine L_nil ⟨rfl, ?_⟩
 refine D_l (l := []) kr kr Rk_nil (NS_nil (W_sg 2 kr (L_nil (W_ret ?_))))
 repeat first | with_reducible refine then_ret ?_ | with_reducible refine blk_ret ?_
 refine done_of (v := .tuple ⟨[.bool true, nv 0]⟩) (.inl rfl) kr ?_
 have ew : (W.setPr b { W.pr b with inb := (W.pr b).inb ++ [((a : Int), x)] }).setWay (a : Int) (b : Int) l = (W.setWay (a : Int) (b : Int) l).setPr b { W.pr b with inb := (W.pr b).inb ++ [((a : Int), x)] } := rfl
 exact ⟨rfl, _, _, _, ew ▸ (R246.ow T246), ((X246).ow T246)⟩
end
end Go.Proofs.Ytmehemeoaplepaa
namespace Go.Proofs.Ytmehemeoaplepaa
noncomputable section
open Go Go.X Go.Arm Go.Mt
theorem gt_nat (n : Nat) : Value.bool (decide ((0 : Int) < (n : Int))) = Value.bool (decide (0 < n)) := by
 congr 1; by_cases h : 0 < n <;> simp [h]
theorem kget_memk {κ β : Type} [DecidableEq κ] {l : List (κ × β)} {k : κ} {n : β} (h : kget l k = some n) : ∃ x, x ∈ l ∧ x.1 = k := by
 induction l with
 | nil => cases h
 | cons y l ih =>
  unfold kget at h
  split at h
  · rename_i e; exact ⟨y, List.mem_cons.2 (.inl rfl), e⟩
  · obtain ⟨x, h1, h2⟩ := ih h; exact ⟨x, List.mem_cons_of_mem _ h1, h2⟩
theorem quiet_iff {W : Wd} (hw : ∀ a b, W.way a b = []) : (!((List.range W.n).findIdx? (fun p => decide (0 < (W.pr p).inb.length))).isSome) = true ↔ W.quiet := by
 cases hf : (List.range W.n).findIdx? (fun p => decide (0 < (W.pr p).inb.length)) with
 | none =>
  refine ⟨fun _ => ⟨hw, fun p hp => ?_⟩, fun _ => rfl⟩
  have := List.findIdx?_eq_none_iff.1 hf p (List.mem_range.2 hp)
  have h0 : ¬ 0 < (W.pr p).inb.length := by simpa using this
  exact List.length_eq_zero_iff.1 (by omega)
 | some i =>
  refine ⟨(fun h => by cases h), fun hq => ?_⟩
  rw [List.findIdx?_eq_some_iff_getElem] at hf
  obtain ⟨h1, h2, _⟩ := hf
  simp at h1 h2
  have := hq.2 i h1
  rw [this] at h2; simp at h2
theorem ixf_pr {h : AH} {s : Value} {g : FuncId} {cs : List Value} {α : Type} {l : List α} {pr : α → Bool} (H : Sd h 1 s l.length cs) (hl : l.length < big) (hg : ∀ vs h, aCallX Try.prog g vs h = some [(.enter g vs, h)])
  (hc : ∀ (i : Nat) x, l[i]? = some x → ∃ v, cs[i]? = some v ∧ ∀ h', Sm Nix h h' → Arm.Calls Try.prog g [v] h' (fun r => r.1 = .bool (pr x) ∧ Sm Nix h' r.2)) :
  Arm.Calls Try.prog 58 [s, .func (.func g) ⟨[]⟩ ⟨[]⟩] h (fun r => r.1 = nv (match l.findIdx? pr with | some i => (i : Int) | none => -1) ∧ Sm Nix h r.2) := by
 have hl : l.length < 1000000000 := hl
 refine Calls_W 19 Try.f58 ?_
 have T0 : Sm Nix h h := .refl
 refine W_sg 1 kr (L_nil (W_seq (W_sg 1 kr (L_ln _ rfl rfl kr ((H.ext T0).len (T := 74) (el := 77) kr) (L_g 1 kr (L_nil (W_block ?_)))))))
 refine W_loop (fun mm fr hh => ∃ (k : Nat), (k ≤ l.length) ∧ (l.findIdx? pr = ((l.drop k).findIdx? pr).map (· + k)) ∧ mm = l.length - k ∧ fr 0 = s ∧ fr 1 = .func (.func g) ⟨[]⟩ ⟨[]⟩ ∧ fr 7 = nv (l.length : Int) ∧ fr 8 = nv (k : Int) ∧ Sm Nix h hh) (l.length) ?_ ?_
 ·
  exact ⟨0, Nat.zero_le _, by simp, rfl, kr, kr, kr, kr, T0⟩
 rintro mm254 fr254 h254 ⟨k, hk, hf, hm254, y254_0, y254_1, y254_7, y254_8, T254⟩
 have N254 := T254.nx
 refine W_set (k := 0) y254_0 (W_set (k := 1) y254_1 (W_set (k := 7) y254_7 (W_set (k := 8) y254_8 (W_sg 1 kr (L_nil (W_seq ?_))))))
 refine W_cond (decide ((k : Int) < (l.length : Nat))) kr (fun hb => ?_) (fun hb => ?_)
 ·
  have hlt : k < l.length := by simp at hb; omega
  obtain ⟨x, hx⟩ : ∃ x, l[k]? = some x := ⟨_, List.getElem?_eq_getElem hlt⟩
  have hdr : l.drop k = x :: l.drop (k + 1) := by rw [List.drop_eq_getElem_cons hlt]; congr 1; exact (List.getElem?_eq_some_iff.1 hx).2
  obtain ⟨v, hv, hcall⟩ := hc k x hx
  obtain ⟨b9, o9, _, i9, l9⟩ := (H.ext T254).at (P := Try.prog) (T := 74) (el := 77) kr kr hlt .i64
  refine W_skip (W_seq (W_block (W_sg 2 kr (L_nil (W_sg 3 kr (L_ix _ rfl rfl kr kr (i9) (L_ld _ rfl rfl kr (ld_cell kr (by have := l9 0 (by decide); rw [Nat.add_zero, Nat.mul_one, Nat.add_zero] at this; rw [this]; exact hv)) ?_)))))))
  refine L_c rfl rfl (Eq.trans (b := aCallX Try.prog g [v] h254) kr (hg _ _)) (hcall _ T254) ?_
  rintro v255 h255 ⟨e255, t255⟩
  try dsimp only at e255
  try dsimp only at t255
  subst e255
  have T255 := T254.ext t255
  have N255 := T255.nx
  have M255 := t255.nx
  refine L_nil ?_
  refine W_cond (pr x) kr (fun hb => ?_) (fun hb => ?_)
  ·
   have hres : nv (match l.findIdx? pr with | some i => (i : Int) | none => -1) = nv (k : Int) := by rw [hf, hdr, List.findIdx?_cons, hb]; simp
   rw [hres]
   refine W_sg 2 kr (L_nil (W_ret ?_))
   repeat first | with_reducible refine then_ret ?_ | with_reducible refine blk_ret ?_
   refine done_of (v := nv (k : Int)) (.inl rfl) kr ?_
   exact ⟨rfl, T255⟩
  ·
   have hfb : pr x = false := hb
   refine W_skip (W_region (L_i ((k : Int)) (1) (nv ((k + 1 : Nat) : Int)) rfl rfl kr kr rfl (inc_ok (by omega)) (L_g 1 kr (L_nil ?_))))
   exact ⟨l.length - (k + 1), by omega, k + 1, by omega, find_step hf hdr hfb, rfl, kr, kr, kr, kr, T255⟩
 ·
  have hge : k = l.length := by simp at hb; omega
  have hres : nv (match l.findIdx? pr with | some i => (i : Int) | none => -1) = nv (-1) := by rw [hf, hge]; simp
  rw [hres]
  refine W_exit ?_
  repeat with_reducible refine then_exit ?_
  refine exit_here (W_sg 1 kr (L_nil (W_ret ?_)))
  repeat first | with_reducible refine then_ret ?_ | with_reducible refine blk_ret ?_
  refine done_of (v := nv (-1)) (.inl rfl) kr ?_
  exact ⟨rfl, T254⟩
theorem quiet1_ok {W : Wd} {G : Gh} {h : AH} {p : Nat} (R : Rep W G h) (hp : p < W.n) :
  Arm.Calls Try.prog 49 [ptr (G.B (.pr p))] h (fun r => r.1 = .bool (decide (0 < (W.pr p).inb.length)) ∧ Sm Nix h r.2) := by
 obtain ⟨cs, g0, ls⟩ := R.inb hp
 refine Calls_W 9 Try.f49 ?_
 have T0 : Sm Nix h h := .refl
 refine W_sg 1 kr (L_nil (W_sg 3 kr (L_ld _ rfl rfl kr (((R.ext T0).prL hp).ld (o := 3) kr rfl) (L_ln _ rfl rfl kr ((g0.ext T0).lenV (T := 81) (el := 101) kr) (L_i (((W.pr p).inb.length : Int)) (0) (.bool (decide (0 < (W.pr p).inb.length))) rfl rfl kr kr rfl (gt_nat _) (L_g 1 kr (L_nil ?_)))))))
 refine W_ret ?_
 repeat first | with_reducible refine then_ret ?_ | with_reducible refine blk_ret ?_
 refine done_of (v := .bool (decide (0 < (W.pr p).inb.length))) (.inl rfl) kr ?_
 exact ⟨rfl, T0⟩
theorem qcf_ok {W : Wd} {G : Gh} {h : AH} (R : Rep W G h) (hn : W.n < big) :
  Arm.Calls Try.prog 48 [G.S .prs, .func (.func 49) ⟨[]⟩ ⟨[]⟩] h (fun r => r.1 = .bool ((List.range W.n).findIdx? (fun p => decide (0 < (W.pr p).inb.length))).isSome ∧ Sm Nix h r.2) := by
 have hix := ixf_pr (pr := fun p => decide (0 < (W.pr p).inb.length)) (l := List.range W.n) (by rw [List.length_range]; exact R.prsL) (by rw [List.length_range]; exact hn) (g := 49) (fun _ _ => rfl) (fun i x hx => by
  obtain ⟨hl, e⟩ := List.getElem?_eq_some_iff.1 hx
  simp at hl e; subst e
  exact ⟨_, by rw [List.getElem?_map, List.getElem?_range hl]; rfl, fun h' t => quiet1_ok (R.ext t) hl⟩)
 cases hf : (List.range W.n).findIdx? (fun p => decide (0 < (W.pr p).inb.length)) with
 | none =>
  rw [hf] at hix
  refine Calls_W 9 Try.f48 ?_
  have T0 : Sm Nix h h := .refl
  refine W_sg 1 kr (L_nil (W_sg 2 kr (L_c rfl rfl kr (hix) ?_)))
  rintro v247 h247 ⟨e247, t247⟩
  try dsimp only at e247
  try dsimp only at t247
  subst e247
  have T247 := T0.ext t247
  have N247 := T247.nx
  have M247 := t247.nx
  refine L_i (-1) (0) (.bool false) rfl rfl kr kr rfl (by first | (simp; done) | (simp; omega)) (L_g 1 kr (L_nil (W_ret ?_)))
  repeat first | with_reducible refine then_ret ?_ | with_reducible refine blk_ret ?_
  refine done_of (v := .bool false) (.inl rfl) kr ?_
  exact ⟨rfl, T247⟩
 | some i =>
  rw [hf] at hix
  refine Calls_W 9 Try.f48 ?_
  have T0 : Sm Nix h h := .refl
  refine W_sg 1 kr (L_nil (W_sg 2 kr (L_c rfl rfl kr (hix) ?_)))
  rintro v248 h248 ⟨e248, t248⟩
  try dsimp only at e248
  try dsimp only at t248
  subst e248
  have T248 := T0.ext t248
  have N248 := T248.nx
  have M248 := t248.nx
  refine L_i ((i : Int)) (0) (.bool true) rfl rfl kr kr rfl (by first | (simp; done) | (simp; omega)) (L_g 1 kr (L_nil (W_ret ?_)))
  repeat first | with_reducible refine then_ret ?_ | with_reducible refine blk_ret ?_
  refine done_of (v := .bool true) (.inl rfl) kr ?_
  exact ⟨rfl, T248⟩
theorem quiet_ok {W : Wd} {G : Gh} {h : AH} (R : Rep W G h) (hn : W.n < big) :
  Arm.Calls Try.prog 28 [ptr (G.B .wd)] h (fun r => ∃ b, r.1 = .bool b ∧ (b = true ↔ W.quiet) ∧ Sm Nix h r.2) := by
 obtain ⟨m, hm, hmb, hmC, hmN, hmS⟩ := R.waysN
 have hwl := R.waysLt
 refine Calls_W 26 Try.f28 ?_
 have T0 : Sm Nix h h := .refl
 refine W_sg 1 kr (L_nil (W_seq (W_sg 1 kr (L_c rfl rfl kr (valid_ok (R.ext T0)) ?_))))
 rintro v249 h249 ⟨e249, t249⟩
 try dsimp only at e249
 try dsimp only at t249
 subst e249
 have T249 := T0.ext t249
 have N249 := T249.nx
 have M249 := t249.nx
 refine L_g 1 kr (L_nil ?_)
 refine W_cond false kr (fun e => by cases e) (fun _ => ?_)
 refine W_skip (W_seq (W_sg 3 kr (L_ld _ rfl rfl kr ((R.ext T249).wdL.ld (o := 2) kr rfl) ?_)))
 obtain ⟨h250, e250, ⟨c0, hI0⟩, t250, n250⟩ := Itr.start (P := Try.prog) (T := 73) (kt := 96) (el := 97) kr (hm.sm T249 (fun x => x) (fun _ _ e => e)) (hmb.sm T249 hm.1 (fun x => x))
 refine L_rg _ rfl rfl kr e250 ?_
 have T250 := T249.ext t250
 have N250 := T250.nx
 refine L_nil (W_block ?_)
 refine W_loop (fun mm fr hh => ∃ dn : Nat → Prop, Itr hh h249.next (G.B .ways) k2 Eq m dn mm ∧ Sm Nix h hh ∧ (∀ i x, m[i]? = some x → dn i → W.way x.1.1 x.1.2 = []) ∧ fr 0 = ptr (G.B .wd) ∧ fr 12 = .pointer (some ⟨h249.next, 0, none⟩)) (c0) ?_ ?_
 ·
  exact ⟨_, hI0, T250, fun i x _ hd => hd.elim, kr, kr⟩
 clear hI0
 rintro mm fr hh ⟨dn, hI, TL, hdn, y0, y12⟩
 refine W_set (k := 0) y0 (W_set (k := 12) y12 ?_)
 have NL := TL.nx
 refine W_seq (W_region ?_)
 refine L_nx rfl rfl kr hI (fun hall => ?_) (fun ie e vnx cnx hnx hie hndn hRv hcl hInx tnx nnx henx => ?_)
 ·
  have hway : ∀ a b, W.way a b = [] := by
   intro a b
   cases hk : kget m (a, b) with
   | none =>
    obtain ⟨csw, gw, _⟩ := R.way a b
    have hs := hmS a b
    rw [hk] at hs
    rw [← hs] at gw
    obtain ⟨a', c', e'⟩ := gw.sd.form
    have e' : Value.slice none 0 0 = Value.slice a' (W.way a b).length c' := e'
    cases hw : W.way a b with
    | nil => rfl
    | cons y l => rw [hw] at e'; cases e'
   | some v =>
    obtain ⟨x, hx, hxv⟩ := kget_memk hk
    obtain ⟨i, hi, hie⟩ := List.getElem_of_mem hx
    have := hdn i x (by rw [List.getElem?_eq_getElem hi, hie]) (hall i hi)
    rw [hxv] at this; exact this
  refine L_g 1 kr (L_nil (W_seq ?_))
  refine W_cond false kr (fun e => by cases e) (fun _ => ?_)
  refine W_exit ?_
  repeat with_reducible refine then_exit ?_
  refine exit_here (W_sg 3 kr (L_ld _ rfl rfl kr ((R.ext TL).wdL.ld (o := 1) kr rfl) (L_c rfl rfl kr (qcf_ok (R.ext TL) hn) ?_)))
  rintro v252 h252 ⟨e252, t252⟩
  try dsimp only at e252
  try dsimp only at t252
  subst e252
  have T252 := TL.ext t252
  have N252 := T252.nx
  have M252 := t252.nx
  refine L_g 2 kr (L_nil (W_ret ?_))
  repeat first | with_reducible refine then_ret ?_ | with_reducible refine blk_ret ?_
  refine done_of (v := .bool (!((List.range W.n).findIdx? (fun p => decide (0 < (W.pr p).inb.length))).isSome)) (.inl rfl) kr ?_
  exact ⟨_, rfl, quiet_iff hway, T252⟩
 ·
  have Tnx : Sm Nix h hnx := TL.trans tnx (fun b hb => .inr (by have hb : b = h249.next := hb; omega))
  have Nnx := Tnx.nx
  have hge := kget_nodup hmN (List.mem_of_getElem? hie)
  have hse := hmS e.1.1 e.1.2
  rw [hge] at hse
  obtain ⟨csw, gw, _⟩ := R.way e.1.1 e.1.2
  rw [← hse, show (some e.2).getD nilS = vnx from hRv.symm] at gw
  refine L_g 1 kr (L_nil (W_seq ?_))
  refine W_cond true kr (fun _ => ?_) (fun e => by cases e)
  refine W_skip (W_block (W_seq (W_region (L_p (.tuple ⟨[k2 e.1, vnx]⟩) rfl (by exact henx) (L_g 2 kr (L_nil (W_seq ?_)))))))
  by_cases hemp : W.way e.1.1 e.1.2 = []
  ·
   refine W_rg 1 kr (L_ln _ rfl rfl kr ((gw.ext Tnx).lenV (T := 97) (el := 99) kr) (L_i (((W.way e.1.1 e.1.2).length : Int)) (0) (.bool false) rfl rfl kr kr rfl (by rw [hemp]; rfl) (L_nil ?_)))
   refine W_cond false kr (fun e => by cases e) (fun _ => ?_)
   refine W_skip ?_
   exact ⟨cnx, hcl, _, hInx, Tnx, fun i x hx hd => by
    rcases hd with rfl | hd
    · rw [hx] at hie; cases hie; exact hemp
    · exact hdn i x hx hd, kr, kr⟩
  ·
   refine W_rg 1 kr (L_ln _ rfl rfl kr ((gw.ext Tnx).lenV (T := 97) (el := 99) kr) (L_i (((W.way e.1.1 e.1.2).length : Int)) (0) (.bool true) rfl rfl kr kr rfl (by have := List.length_pos_iff.2 hemp; simp; omega) (L_nil ?_)))
   refine W_cond true kr (fun _ => ?_) (fun e => by cases e)
   refine W_sg 1 kr (L_nil (W_ret ?_))
   repeat first | with_reducible refine then_ret ?_ | with_reducible refine blk_ret ?_
   refine done_of (v := .bool false) (.inl rfl) kr ?_
   exact ⟨_, rfl, ⟨(fun e9 => by cases e9), fun hq => (hemp (hq.1 _ _)).elim⟩, Tnx⟩
end
end Go.Proofs.Ytmehemeoaplepaa


namespace Go.Arm
noncomputable section
open Go Go.X
section
variable {P : Program} {n : Nat} {T el : TypeId}
theorem ev_mkK {f : Fr} {x y : Operand} {m by_ k : Nat} {z : Value} (hT : P.underlying T = some (.slice el)) (hs : szOf P el = some k) (hb : byOf P el = some by_) (hz : zeroOf P el = some z) (hzl : (cellsL z).length = k) (hm : m * (by_ + 1) < 1099511627776)
  (hx : ev n f x = some (.int .i64 (m : Nat))) (hy : ev n f y = some (.int .i64 (m : Nat))) : evAl P n f (.makeSlice T x y) = some (.cells (zrep m (cellsL z)), .sl m m) := by
 have hm2 : m < 1099511627776 := by
  have : m * 1 ≤ m * (by_ + 1) := Nat.mul_le_mul_left _ (by omega)
  omega
 have e0 : evAl0 P n f (.makeSlice T x y) = some (.cells (zrep m (cellsL z)), .sl m m) := by
  unfold evAl0
  simp only [hx, hy, hT, hs, hb, hz]
  rw [if_pos ⟨by omega, by omega, by
   have h9 : ((m * (by_ + 1) : Nat) : Int) < ((1099511627776 : Nat) : Int) := Int.ofNat_lt.2 hm
   rw [Int.natCast_mul, Int.natCast_add] at h9
   exact h9, hzl⟩]
  simp only [Int.toNat_natCast]
 unfold evAl
 rw [e0]
 dsimp only
 rw [if_pos]
 show decide (m < open_) = true
 rw [decide_eq_true_eq]
 have : 1099511627776 < open_ := by decide
 omega
end
end
end Go.Arm
namespace Go.Arm
noncomputable section
open Go Go.X
section
variable {P : Program} {h : AH} {b n k : Nat} {T el : TypeId} {x y : Value}
theorem bnd_nat' (i d : Nat) : bnd (some (.int .i64 (i : Nat))) d = some i := by unfold bnd; simp
theorem slk_lo (hT : P.underlying T = some (.slice el)) (hk : szOf P el = some 1) (hkn : k < n) (hn : n < open_) : aSl P T (.slice (some ⟨b, 0, none⟩) n n) (some (.int .i64 (k : Nat))) none none h = some (.slice (some ⟨b, k, none⟩) (n - k) (n - k)) := by
 have : aSlice P T (.slice (some ⟨b, 0, none⟩) n n) (some (.int .i64 (k : Nat))) none none h = some (.slice (some ⟨b, k, none⟩) (n - k) (n - k)) := by
  unfold aSlice
  rw [if_pos (show mxOk none none = true from rfl)]
  simp only [hT, hk]
  rw [if_neg (by omega)]
  have e1 : bnd none n = some n := rfl
  simp only [e1, bnd_nat']
  rw [if_pos ⟨by omega, by omega, by omega, hn⟩, if_neg (by omega)]
  simp
 unfold aSl; rw [this]
theorem slk_hi (hT : P.underlying T = some (.slice el)) (hk : szOf P el = some 1) (hkn : k ≤ n) (h0 : 0 < n) (hn : n < open_) : aSl P T (.slice (some ⟨b, 0, none⟩) n n) none (some (.int .i64 (k : Nat))) none h = some (.slice (some ⟨b, 0, none⟩) k n) := by
 have : aSlice P T (.slice (some ⟨b, 0, none⟩) n n) none (some (.int .i64 (k : Nat))) none h = some (.slice (some ⟨b, 0, none⟩) k n) := by
  unfold aSlice
  rw [if_pos (show mxOk _ _ = true from rfl)]
  simp only [hT, hk]
  rw [if_neg (by omega)]
  have e1 : bnd none n = some n := rfl
  have e2 : bnd none 0 = some 0 := rfl
  simp only [e1, e2, bnd_nat']
  rw [if_pos ⟨by omega, by omega, by omega, hn⟩, if_neg (by omega)]
  simp
 unfold aSl; rw [this]
def row2 (x y : Value) (k n : Nat) : List Value := List.replicate k x ++ List.replicate (n - k) y
theorem row2_len (hk : k ≤ n) : (row2 x y k n).length = n := by unfold row2; simp; omega
theorem copy_row {o m : Nat} (hT : P.underlying T = some (.slice el)) (hz : szOf P el = some 1) {u : Value} {s : Nat} {dc : Nat} (hc : Cl h b (row2 x y k n)) (hk : k ≤ n) (hx : x.oneCell' = true) (hl : X.lenV u = some s) (hf : aFirst 1 (min s (n - o)) u h = some (List.replicate m x)) (hm : m = min s (n - o)) (ho : o ≤ k) (hon : o < n) (hs : 0 < s) (hkm : o + m ≥ k) (hdc : dc ≠ 0) :
   ∃ h', aCopy P T (.slice (some ⟨b, o, none⟩) (n - o) dc) u h = some (.int .i64 (m : Nat), h') ∧ Cl h' b (row2 x y (o + m) n) ∧ Sm (fun q => q = b) h h' ∧ h'.next = h.next := by
 obtain ⟨h2, e1, c1, s1, n1⟩ := Cl.setcs (o := o) (vs := List.replicate m x) (i := 0) hc (by rw [row2_len hk]; simp; omega) (fun v hv => by rw [(List.mem_replicate.1 hv).2]; exact hx)
 refine ⟨h2, ?_, ?_, s1, n1⟩
 · unfold aCopy
   simp only [hT, hl, hz, Option.getD_some, hf]
   rw [if_neg (by omega), if_neg (by omega), e1, hm]
 · have : row2 x y (o + m) n = (row2 x y k n).take (o + 0) ++ List.replicate m x ++ (row2 x y k n).drop (o + 0 + (List.replicate m x).length) := by
    unfold row2
    rw [Nat.add_zero, List.length_replicate, List.take_append_of_le_length (by simp; omega), List.take_replicate, Nat.min_eq_left ho, List.drop_append, List.length_replicate, List.drop_replicate, List.drop_replicate, show k - (o + m) = 0 by omega, ← List.replicate_append_replicate]
    simp
    omega
   rw [this]; exact c1
theorem first_row (hc : Cl h b (row2 x y k n)) (hk : k ≤ n) {m c : Nat} (hm : m ≤ k) (hc0 : c ≠ 0) : aFirst 1 m (.slice (some ⟨b, 0, none⟩) k c) h = some (List.replicate m x) := by
 by_cases h0 : m = 0
 · subst h0; simp [aFirst]
 · have hcl := hc.cells (o := 0) m 0 (by rw [row2_len hk]; omega)
   have ht : ((row2 x y k n).drop (0 + 0)).take m = List.replicate m x := by
    unfold row2
    rw [List.drop_zero, List.take_append_of_le_length (by simp; omega), List.take_replicate, Nat.min_eq_left hm]
   rw [ht] at hcl
   unfold aFirst
   dsimp only
   rw [if_neg h0, if_neg (by omega), Nat.mul_one]
   exact hcl
theorem zrep_row (n : Nat) (y : Value) : zrep n [y] = row2 x y 0 n := by
 unfold row2
 rw [List.replicate_zero, List.nil_append, Nat.sub_zero]
 induction n with
 | zero => rfl
 | succ n ih => rw [List.replicate_succ, ← ih]; rfl
end
end
end Go.Arm
namespace Go.Proofs.Ytmehemeoaplepaa
noncomputable section
open Go Go.X Go.Arm Go.Mt
theorem bi_copy {P : Program} {T U : TypeId} {d s v : Value} {h h' : AH} (e : aCopy P T d s h = some (v, h')) : aBuiltin P .copy [T, U] [d, s] h = some [(.val v, h')] := by
 show ovh (aCopy P T d s h) = _
 rw [e]; rfl
theorem add_nat {a b : Nat} (h : a + b < 1000000000) : Value.int .i64 (IntKind.i64.wrap ((a : Int) + (b : Int))) = nv ((a + b : Nat) : Int) := by
 have : IntKind.i64.wrap ((a : Int) + (b : Int)) = ((a + b : Nat) : Int) := by rw [IntKind.wrap_i64]; omega
 rw [this]; rfl
theorem mul64_ok {h : AH} {n : Nat} (hn : n = 1 ∨ n = 2 ∨ n = 3 ∨ n = 4 ∨ n = 5 ∨ n = 6 ∨ n = 7 ∨ n = 8) :
  Arm.Calls Try.prog 60 [.int .u64 1, .int .u64 (n : Int)] h (fun r => r.1 = .tuple ⟨[.int .u64 0, .int .u64 (n : Int)]⟩ ∧ Sm Nix h r.2) := by
 rcases hn with rfl | rfl | rfl | rfl | rfl | rfl | rfl | rfl
 all_goals
  refine Calls_W 51 Try.f60 ?_
  have T0 : Sm Nix h h := .refl
  refine W_sg 2 kr (L_nil (W_sg 3 kr (L_nil (W_sg 3 kr (L_nil ?_)))))
  refine W_sg 3 kr (L_nil (W_sg 3 kr (L_nil (W_sg 4 kr (L_nil ?_)))))
  refine W_sg 7 kr (L_nil (W_sg 3 kr (L_nil (W_sg 3 kr (L_nil ?_)))))
  refine W_sg 6 kr (L_nil (W_sg 9 kr (L_nil (W_sg 4 kr (L_nil ?_)))))
  refine W_ret ?_
  repeat first | with_reducible refine then_ret ?_ | with_reducible refine blk_ret ?_
  first
   | (refine done_of (v := .tuple ⟨[.int .u64 0, .int .u64 ((1 : Nat) : Int)]⟩) (.inl rfl) kr ?_; exact ⟨rfl, T0⟩)
   | (refine done_of (v := .tuple ⟨[.int .u64 0, .int .u64 ((2 : Nat) : Int)]⟩) (.inl rfl) kr ?_; exact ⟨rfl, T0⟩)
   | (refine done_of (v := .tuple ⟨[.int .u64 0, .int .u64 ((3 : Nat) : Int)]⟩) (.inl rfl) kr ?_; exact ⟨rfl, T0⟩)
   | (refine done_of (v := .tuple ⟨[.int .u64 0, .int .u64 ((4 : Nat) : Int)]⟩) (.inl rfl) kr ?_; exact ⟨rfl, T0⟩)
   | (refine done_of (v := .tuple ⟨[.int .u64 0, .int .u64 ((5 : Nat) : Int)]⟩) (.inl rfl) kr ?_; exact ⟨rfl, T0⟩)
   | (refine done_of (v := .tuple ⟨[.int .u64 0, .int .u64 ((6 : Nat) : Int)]⟩) (.inl rfl) kr ?_; exact ⟨rfl, T0⟩)
   | (refine done_of (v := .tuple ⟨[.int .u64 0, .int .u64 ((7 : Nat) : Int)]⟩) (.inl rfl) kr ?_; exact ⟨rfl, T0⟩)
   | (refine done_of (v := .tuple ⟨[.int .u64 0, .int .u64 ((8 : Nat) : Int)]⟩) (.inl rfl) kr ?_; exact ⟨rfl, T0⟩)
theorem mul_ok {h : AH} {n : Nat} (hn : n = 1 ∨ n = 2 ∨ n = 3 ∨ n = 4 ∨ n = 5 ∨ n = 6 ∨ n = 7 ∨ n = 8) :
  Arm.Calls Try.prog 50 [.int .u64 1, .int .u64 (n : Int)] h (fun r => r.1 = .tuple ⟨[.int .u64 0, .int .u64 (n : Int)]⟩ ∧ Sm Nix h r.2) := by
 refine Calls_W 30 Try.f50 ?_
 have T0 : Sm Nix h h := .refl
 refine W_sg 2 kr (L_nil (W_seq ?_))
 refine W_cond false kr (fun e => by cases e) (fun _ => ?_)
 refine W_skip (W_sg 2 kr (L_c rfl rfl kr (mul64_ok hn) ?_))
 rintro v256 h256 ⟨e256, t256⟩
 try dsimp only at e256
 try dsimp only at t256
 subst e256
 have T256 := T0.ext t256
 have N256 := T256.nx
 have M256 := t256.nx
 refine L_g 5 kr (L_nil (W_sg 4 kr (L_nil (W_ret ?_))))
 repeat first | with_reducible refine then_ret ?_ | with_reducible refine blk_ret ?_
 refine done_of (v := .tuple ⟨[.int .u64 0, .int .u64 (n : Int)]⟩) (.inl rfl) kr ?_
 exact ⟨rfl, T256⟩
theorem repeat_ok {h : AH} {n b0 : Nat} {c : Int} (hc0 : Arm.Cl h b0 [nv c]) (hn : n = 1 ∨ n = 2 ∨ n = 3 ∨ n = 4 ∨ n = 5 ∨ n = 6 ∨ n = 7 ∨ n = 8) :
  Arm.Calls Try.prog 29 [.slice (some ⟨b0, 0, none⟩) 1 1, nv (n : Int)] h (fun r => ∃ bb, h.next ≤ bb ∧ Arm.Cl r.2 bb (List.replicate n (nv c)) ∧ r.1 = .slice (some ⟨bb, 0, none⟩) n n ∧ Sm Nix h r.2) := by
 have hn0 : 0 < n := by omega
 have hn9 : n < 9 := by omega
 have hop : n < open_ := Nat.lt_trans hn9 (by decide)
 have hbl := hc0.lt
 refine Calls_W 48 Try.f29 ?_
 have T0 : Sm Nix h h := .refl
 refine W_sg 1 kr (L_nil (W_seq (W_sg 1 kr (L_i ((n : Int)) (0) (.bool false) rfl rfl kr kr rfl (by first | (simp; done) | (simp; omega)) (L_nil ?_)))))
 refine W_cond false kr (fun e => by cases e) (fun _ => ?_)
 refine W_skip (W_sg 4 kr (L_p (.int .u64 (n : Int)) rfl (by rcases hn with rfl | rfl | rfl | rfl | rfl | rfl | rfl | rfl <;> kernel_rfl) (L_c rfl rfl kr (mul_ok hn) ?_)))
 rintro v257 h257 ⟨e257, t257⟩
 try dsimp only at e257
 try dsimp only at t257
 subst e257
 have T257 := T0.ext t257
 have N257 := T257.nx
 have M257 := t257.nx
 refine L_g 5 kr (L_nil (W_seq (W_sg 4 kr (L_want kr (L_p (.bool false) rfl (by rcases hn with rfl | rfl | rfl | rfl | rfl | rfl | rfl | rfl <;> kernel_rfl) (L_g 1 kr (L_nil ?_)))))))
 refine W_cond false kr (fun e => by cases e) (fun _ => ?_)
 refine W_skip (W_sg 1 kr (L_p (nv (n : Int)) rfl (by rcases hn with rfl | rfl | rfl | rfl | rfl | rfl | rfl | rfl <;> kernel_rfl) (L_nwc (zrep n [nv 0]) (.sl n n) rfl rfl (ev_mkK (P := Try.prog) (k := 1) (el := 3) (z := nv 0) (by_ := 8) kr kr kr kr rfl (by omega) kr kr) fun h258 c258 t258 n258 => ?_)))
 have T258 := T257.ext t258
 have N258 := T258.nx
 rw [zrep_row] at c258
 have hN30 : h.next ≤ h257.next := T257.nx
 refine L_g 1 kr (L_nil (W_seq (W_region (L_g 2 kr ?_))))
 obtain ⟨h259, e259, d259, t259, n259⟩ := copy_row (P := Try.prog) (T := 29) (el := 3) (x := nv c) (y := nv 0) (k := 0) (o := 0) (m := 1) (s := 1) (u := .slice (some ⟨b0, 0, none⟩) 1 1) kr kr c258 (Nat.zero_le _) rfl rfl (by rw [Nat.min_eq_left (by omega)]; exact ((hc0.ext T258).sd (n := 1) rfl).first) (by omega) (Nat.le_refl _) hn0 (by decide) (by omega) (by omega : n ≠ 0)
 refine L_bi (nv (1 : Nat)) h259 rfl rfl kr (vs := [.slice (some ⟨h257.next, 0, none⟩) n n, .slice (some ⟨b0, 0, none⟩) 1 1]) kr (bi_copy e259) ?_
 replace c258 := c258.lt
 have T259 : Sm Nix h h259 := T258.trans t259 (fun x hx => .inr (by have hx : x = _ := hx; omega))
 have N259 := T259.nx
 refine L_g 1 kr (L_nil (W_seq (W_block ?_)))
 refine W_loop (fun mm fr hh => ∃ k : Nat, mm = n - k ∧ 1 ≤ k ∧ k ≤ n ∧ Arm.Cl hh h257.next (row2 (nv c) (nv 0) k n) ∧ Sm Nix h hh ∧ fr 7 = .slice (some ⟨h257.next, 0, none⟩) n n ∧ fr 8 = nv (k : Int)) (n - 1) ?_ ?_
 ·
  exact ⟨1, rfl, Nat.le_refl _, hn0, d259, T259, kr, kr⟩
 rintro mm fr hh ⟨k, hm, hk1, hkn, hcr, TL, y7, y8⟩
 refine W_set (k := 7) y7 (W_set (k := 8) y8 (W_seq (W_sg 3 kr (L_i ((k : Int)) ((n : Int)) (.bool (decide ((k : Int) < (n : Int)))) rfl rfl kr kr rfl (rfl) (L_nil ?_)))))
 refine W_cond (decide ((k : Int) < (n : Int))) kr (fun hb => ?_) (fun hb => ?_)
 ·
  have hlt : k < n := by simp at hb; omega
  refine W_skip (W_block (W_drawn kr (D_e (e := 7) (l := [0,1,2,3,4,5,6]) (s' := [0]) kr kr rfl kr Rk_nil (NS_b 3 kr (NS_sl _ rfl rfl kr kr kr kr kr kr (slk_lo (b := h257.next) (P := Try.prog) (T := 29) (el := 3) kr kr hlt hop) (NS_b 2 kr (NS_sl _ rfl rfl kr kr kr kr kr kr (slk_hi (b := h257.next) (P := Try.prog) (T := 29) (el := 3) kr kr hkn hn0 hop) (NS_nil ?_))))))))
  obtain ⟨h260, e260, hcq, t260, n260⟩ := copy_row (P := Try.prog) (T := 29) (el := 3) (x := nv c) (y := nv 0) (k := k) (o := k) (m := min k (n - k)) (s := k) (u := .slice (some ⟨h257.next, 0, none⟩) k n) kr kr hcr hkn rfl rfl (first_row hcr hkn (Nat.min_le_left _ _) (by omega)) rfl (Nat.le_refl _) hlt hk1 (by omega) (by omega : n - k ≠ 0)
  have TQ : Sm Nix h h260 := TL.trans t260 (fun x hx => .inr (by have hx : x = _ := hx; omega))
  refine L_bi (nv ((min k (n - k) : Nat) : Int)) h260 rfl rfl kr (vs := [.slice (some ⟨h257.next, k, none⟩) (n - k) (n - k), .slice (some ⟨h257.next, 0, none⟩) k n]) kr (bi_copy e260) ?_
  have T260 : Sm Nix h h260 := TQ
  have N260 := T260.nx
  refine L_nil ⟨rfl, ?_⟩
  refine D_l (l := [8,9]) kr kr (Rk_noRead kr) (NS_i ((k : Int)) (((min k (n - k) : Nat) : Int)) (nv ((k + min k (n - k) : Nat) : Int)) rfl rfl kr kr kr kr rfl (add_nat (by omega)) (NS_b 1 kr (NS_nil ?_)))
  exact ⟨n - (k + min k (n - k)), by omega, k + min k (n - k), rfl, by omega, by omega, hcq, TQ, kr, kr⟩
 ·
  have hge : k = n := by simp at hb; omega
  subst hge
  refine W_exit ?_
  repeat with_reducible refine then_exit ?_
  refine exit_here (W_sg 2 kr (L_nil (W_ret ?_)))
  repeat first | with_reducible refine then_ret ?_ | with_reducible refine blk_ret ?_
  refine done_of (v := .slice (some ⟨h257.next, 0, none⟩) k k) (.inl rfl) kr ?_
  exact ⟨_, hN30, by have := hcr; unfold row2 at this; rw [Nat.sub_self, List.replicate_zero, List.append_nil] at this; exact this, rfl, TL⟩
end
end Go.Proofs.Ytmehemeoaplepaa
namespace Go.Arm
noncomputable section
open Go Go.X Go.Mt
section
variable {G : Gh} {h h' : AH} {S : Nat → Prop} {r : Ro} {b : Nat} {v : Value} {x : Th}
theorem Op.putO (O : Op G h) (r : Ro) (b : Nat) (v : Value) (x : Th) (s : Sm S h h') (hS : ∀ c, S c → (G.C r ≠ .no ∧ vbx (G.V r) = some c) ∨ h.next ≤ c)
   (A : At h' ((G.put r b v x).V r) x) (hv : ∀ c, vbx ((G.put r b v x).V r) = some c → (G.C r ≠ .no ∧ vbx (G.V r) = some c) ∨ (¬ G.mut c ∧ ¬ G.ro c)) :
   Op (G.put r b v x) h' ∧ ∀ c, (G.put r b v x).mut c → G.mut c ∨ vbx ((G.put r b v x).V r) = some c := by
 have hmu : ∀ c, (G.put r b v x).mut c → G.mut c ∨ vbx ((G.put r b v x).V r) = some c := by
   rintro c ⟨r', h3, h4⟩
   by_cases e : r' = r
   · subst e; exact .inr h4
   · rw [C_put e] at h3; rw [V_put e] at h4; exact .inl ⟨r', h3, h4⟩
 have hother : ∀ r', r' ≠ r → ∀ c, G.C r' ≠ .no → vbx (G.V r') = some c → ¬ S c := fun r' hr c hc hb hs => by
   rcases hS c hs with ⟨e1, e2⟩ | e
   · exact hr (O.inj _ _ _ hc e1 hb e2)
   · exact O.new e ⟨r', hc, hb⟩
 refine ⟨⟨fun r' => ?_, fun r' r'' c h3 h4 h5 h6 => ?_, fun c hc hr => ?_, fun c hc => Nat.lt_of_lt_of_le (O.rolt c hc) s.nx⟩, hmu⟩
 · by_cases e : r' = r
   · subst e; rw [C_at]; exact A
   · rw [V_put e, C_put e]
     by_cases e2 : G.C r' = .no
     · rw [e2]; trivial
     · exact (O.here r').sm s (fun c hb => hother r' e c e2 hb)
 · by_cases e : r' = r
   · by_cases e2 : r'' = r
     · rw [e, e2]
     · subst e
       rw [C_put e2] at h4; rw [V_put e2] at h6
       rcases hv c h5 with q | q
       · exact O.inj _ _ _ q.1 h4 q.2 h6
       · exact (q.1 ⟨_, h4, h6⟩).elim
   · rw [C_put e] at h3; rw [V_put e] at h5
     by_cases e2 : r'' = r
     · subst e2
       rcases hv c h6 with q | q
       · exact O.inj _ _ _ h3 q.1 h5 q.2
       · exact (q.1 ⟨_, h3, h5⟩).elim
     · rw [C_put e2] at h4; rw [V_put e2] at h6
       exact O.inj _ _ _ h3 h4 h5 h6
 · rcases hmu c hc with q | q
   · exact O.ro c q hr
   · rcases hv c q with k | k
     · exact O.ro c ⟨r, k.1, k.2⟩ hr
     · exact k.2 hr
theorem Op.oS (O : Op G h) (r : Ro) (v : Value) (x : Th) (hV : ∀ G : Gh, G.V r = G.S r) (s : Sm S h h') (hS : ∀ c, S c → (G.C r ≠ .no ∧ vbx (G.S r) = some c) ∨ h.next ≤ c) (A : At h' v x) (hv : ∀ c, vbx v = some c → (G.C r ≠ .no ∧ vbx (G.S r) = some c) ∨ (¬ G.mut c ∧ ¬ G.ro c)) :
  Op (G.putS r v x) h' ∧ ∀ c, (G.putS r v x).mut c → G.mut c ∨ vbx v = some c := by
 have e : (G.putS r v x).V r = v := by rw [hV]; exact ups_at _ _ _
 have := O.putO r (G.B r) v x s (fun c hc => by rw [hV]; exact hS c hc) (by rw [put_S, e]; exact A) (fun c hc => by rw [put_S, e] at hc; rw [hV]; exact hv c hc)
 rw [put_S, e] at this
 exact this
theorem Op.oB (O : Op G h) (r : Ro) (b : Nat) (x : Th) (hV : vbx ((G.putB r b x).V r) = some b) (A : At h ((G.putB r b x).V r) x) (hv : ¬ G.mut b ∧ ¬ G.ro b) :
  Op (G.putB r b x) h ∧ ∀ c, (G.putB r b x).mut c → G.mut c ∨ c = b := by
 have := O.putO (S := Nix) (h' := h) r b (G.S r) x .refl (fun c hc => hc.elim) (by rw [put_B]; exact A) (fun c hc => by rw [put_B, hV] at hc; cases hc; exact .inr hv)
 rw [put_B] at this
 exact ⟨this.1, fun c hc => (this.2 c hc).imp id fun e => by rw [hV] at e; cases e; rfl⟩
end
def pr0 (n : Nat) (c : Int) : Pr := ⟨1, [], [], [], [], [], List.replicate n c⟩
def rq0 : Rq := ⟨0, 0, 0, 0, 0, false, false, false, false, false, 0, 0, [], [], 0, [], false, St.z⟩
def Wd.new (n : Nat) (e c : Int) : Wd := ⟨e, n, fun _ => pr0 n c, fun _ _ => rq0, fun _ _ => []⟩
variable [Tys]
structure NewI (h0 h : AH) (G : Gh) (k n : Nat) (e c : Int) : Prop where
 op : Op G h
 mu : ∀ b, G.mut b → h0.next ≤ b
 ro : ∀ b, ¬ G.ro b
 wd : G.C .wd = .cl [nv e, G.S .prs, .map (some (G.B .ways))]
 prs : G.C .prs = .gr 1 k ((List.range k).map fun p => ptr (G.B (.pr p)))
 ways : G.C .ways = .mp []
 way : ∀ a b, G.C (.way a b) = .gr 1 0 [] ∧ G.S (.way a b) = nilS
 pr : ∀ p, p < k → RelP (pr0 n c) (fun _ => rq0) G h p
 non : ∀ p no, G.C (.rq p no) = .no
 no : ∀ r p, r.of = some p → k ≤ p → G.C r = .no
section
variable {G : Gh} {h0 h h' h1 h2 : AH} {k n : Nat} {e c : Int}
theorem NewI.ext (N : NewI h0 h G k n e c) (s : Sm Nix h h') : NewI h0 h' G k n e c :=
 ⟨N.op.ext s, N.mu, N.ro, N.wd, N.prs, N.ways, N.way, fun p hp => (N.pr p hp).mono rfl rfl rfl (N.op.dr s.of), N.non, N.no⟩
theorem NewI.rep (N : NewI h0 h G n n e c) : ∃ G', Rep (Wd.new n e c) G' h ∧ G'.B = G.B ∧ ∀ b, G'.mut b ∨ G'.ro b → h0.next ≤ b := by
 have hg := N.op.here .prs
 rw [N.prs] at hg
 obtain ⟨O, M⟩ := N.op.oS .prs (G.S .prs) (.sd 1 n ((List.range n).map fun p => ptr (G.B (.pr p)))) (fun _ => rfl) (Sm.refl (S := Nix)) (fun c hc => hc.elim) (Gr.sd hg) (fun c hc => .inl ⟨by rw [N.prs]; simp, hc⟩)
 refine ⟨_, ⟨O, ?_⟩, rfl, fun b hb => ?_⟩
 · refine ⟨?_, ups_at G.C Ro.prs (.sd 1 n ((List.range n).map fun p => ptr (G.B (.pr p)))), ⟨[], N.ways, by simp, fun a b => ?_⟩, fun a b => ⟨[], (N.way a b).1, .nil⟩, fun p hp => ?_⟩
   · show G.C .wd = .cl [nv e, ups G.S .prs (G.S .prs) .prs, _]
     rw [ups_at]; exact N.wd
   · exact (N.way a b).2.symm
   · refine (N.pr p hp).congr (fun r hr => ⟨?_, ?_, rfl⟩) rfl
     · exact ups_ne _ _ (by intro h; rw [h] at hr; cases hr)
     · exact ups_ne _ _ (by intro h; rw [h] at hr; cases hr)
 · rcases hb with hb | hb
   · rcases M b hb with q | q
     · exact N.mu b q
     · exact N.mu b ⟨.prs, by rw [N.prs]; simp, q⟩
   · exact (N.ro b hb).elim
theorem NewI.start {bw bm : Nat} {e c : Int} (cw : Cl h bw [nv e, .slice none 0 0, .map (some bm)]) (mm : Mp h bm k2 Eq ([] : List ((Int × Int) × Value))) (mb : Mb h bm) (hw : h0.next ≤ bw) (hm : h0.next ≤ bm) (hne : bw ≠ bm) :
   ∃ G, NewI h0 h G 0 n e c ∧ G.B .wd = bw := by
 refine ⟨⟨fun r => if r = .wd then bw else bm, fun _ => nilS, fun r => match r with | .wd => .cl [nv e, nilS, .map (some bm)] | .prs => .gr 1 0 [] | .ways => .mp [] | .way _ _ => .gr 1 0 [] | _ => .no, fun _ => False⟩, ?_, rfl⟩
 have hval : ∀ r b, (match r with | .wd => Th.cl [nv e, nilS, .map (some bm)] | .prs => .gr 1 0 [] | .ways => .mp [] | .way _ _ => .gr 1 0 [] | _ => .no) ≠ .no →
     vbx (Gh.V ⟨fun r => if r = .wd then bw else bm, fun _ => nilS, fun r => match r with | .wd => .cl [nv e, nilS, .map (some bm)] | .prs => .gr 1 0 [] | .ways => .mp [] | .way _ _ => .gr 1 0 [] | _ => .no, fun _ => False⟩ r) = some b → (r = .wd ∧ b = bw) ∨ (r = .ways ∧ b = bm) := by
   intro r b h1 h2
   cases r with
   | wd => cases h2; exact .inl ⟨rfl, rfl⟩
   | ways => cases h2; exact .inr ⟨rfl, rfl⟩
   | prs => cases h2
   | way a b => cases h2
   | _ => exact (h1 rfl).elim
 refine ⟨⟨fun r => ?_, fun r r' b h1 h2 h3 h4 => ?_, fun b hb => id, fun b hb => hb.elim⟩, fun b hb => ?_, fun b hb => hb, rfl, rfl, rfl, fun _ _ => ⟨rfl, rfl⟩, fun p hp => by omega, fun _ _ => rfl, fun r p hr _ => ?_⟩
 · cases r with
   | wd => exact ⟨bw, rfl, cw⟩
   | ways => exact ⟨bm, rfl, mm, mb⟩
   | prs => exact Gr.nil
   | way a b => exact Gr.nil
   | _ => trivial
 · rcases hval r b h1 h3 with ⟨rfl, rfl⟩ | ⟨rfl, rfl⟩ <;> rcases hval r' _ h2 h4 with ⟨rfl, e2⟩ | ⟨rfl, e2⟩
   · rfl
   · exact (hne e2).elim
   · exact (hne e2.symm).elim
   · rfl
 · obtain ⟨r, h1, h2⟩ := hb
   rcases hval r b h1 h2 with ⟨_, rfl⟩ | ⟨_, rfl⟩
   · exact hw
   · exact hm
 · cases r <;> first | rfl | cases hr
theorem NewI.step (N : NewI h0 h G k n e c) {bR bE bP bC : Nat} {hs : AH} (t0 : Sm Nix h hs) (hR : h.next ≤ bR) (hRE : bR < bE) (hEC : bE < bC) (hCP : bC < bP) (h00 : h0.next ≤ h.next)
   (mR : Mp hs bR nv Eq ([] : List (Int × Value))) (bRb : Mb hs bR) (mE : Mp hs bE k2 Eq ([] : List ((Int × Int) × Value))) (bEb : Mb hs bE) (cC : Cl hs bC ((List.replicate n c).map nv))
   (cP : Cl hs bP [nk 1, .map (some bR), .map (some bE), nilS, nilS, nilS, .slice (some ⟨bC, 0, none⟩) n n]) {v' : Value} {S : Nat → Prop}
   (g : Gr h1 1 v' (k + 1) ((List.range k).map (fun p => ptr (G.B (.pr p))) ++ [ptr bP])) (t1 : Sm S hs h1) (hS : ∀ b, S b → vb (G.S .prs) = some b ∨ hs.next ≤ b) (hv' : ∀ b, vb v' = some b → vb (G.S .prs) = some b ∨ hs.next ≤ b)
   (cw : Cl h2 (G.B .wd) [nv e, v', .map (some (G.B .ways))]) (t2 : Sm (fun b => b = G.B .wd) h1 h2) : ∃ G', NewI h0 h2 G' (k + 1) n e c ∧ G'.B .wd = G.B .wd := by
 have Ns := N.ext t0
 have hnew : ∀ b, h.next ≤ b → ¬ G.mut b := fun b hb hm => by have := N.op.lt hm; omega
 obtain ⟨O1, M1⟩ := Ns.op.oB (.rqs k) bR (.mi []) (by show vbx (.map (some (ups _ _ _ _))) = _; rw [ups_at]; rfl) ⟨bR, by show Value.map (some (ups _ _ _ _)) = _; rw [ups_at], mR, bRb⟩ ⟨hnew _ hR, N.ro _⟩
 obtain ⟨O2, M2⟩ := O1.oB (.exs k) bE (.mp []) (by show vbx (.map (some (ups _ _ _ _))) = _; rw [ups_at]; rfl) ⟨bE, by show Value.map (some (ups _ _ _ _)) = _; rw [ups_at], mE, bEb⟩ ⟨fun hm => (M1 _ hm).elim (hnew bE (by omega)) (fun e => by omega), N.ro _⟩
 obtain ⟨O3, M3⟩ := O2.oS (.crd k) (.slice (some ⟨bC, 0, none⟩) n n) (.ws n ((List.replicate n c).map nv)) (fun _ => rfl) (Sm.refl (S := Nix)) (fun c hc => hc.elim) (cC.ws (by simp)) (fun d hd => by
   have ed : bC = d := Option.some.inj hd
   exact .inr ⟨fun hm => (M2 _ hm).elim (fun q => (M1 _ q).elim (hnew d (by omega)) (fun e => by omega)) (fun e => by omega), N.ro _⟩)
 obtain ⟨O4, M4⟩ := O3.oS (.inb k) nilS (.gr 2 0 []) (fun _ => rfl) (Sm.refl (S := Nix)) (fun c hc => hc.elim) Gr.nil (fun d hd => by cases hd)
 obtain ⟨O5, M5⟩ := O4.oS (.msg k) nilS (.gr 6 0 []) (fun _ => rfl) (Sm.refl (S := Nix)) (fun c hc => hc.elim) Gr.nil (fun d hd => by cases hd)
 obtain ⟨O6, M6⟩ := O5.oS (.rcv k) nilS (.gr 1 0 []) (fun _ => rfl) (Sm.refl (S := Nix)) (fun c hc => hc.elim) Gr.nil (fun d hd => by cases hd)
 have m6 : ∀ b, Gh.mut _ b → G.mut b ∨ b = bR ∨ b = bE ∨ b = bC := fun b hm => by
   rcases M6 b hm with q | q
   · rcases M5 b q with q | q
     · rcases M4 b q with q | q
       · rcases M3 b q with q | q
         · rcases M2 b q with q | q
           · exact (M1 b q).imp id .inl
           · exact .inr (.inr (.inl q))
         · cases q; exact .inr (.inr (.inr rfl))
       · cases q
     · cases q
   · cases q
 obtain ⟨O7, M7⟩ := O6.oB (.pr k) bP (.cl [nk 1, .map (some bR), .map (some bE), nilS, nilS, nilS, .slice (some ⟨bC, 0, none⟩) n n]) (by show vbx (ptr (ups _ _ _ _)) = _; rw [ups_at]; rfl) ⟨bP, by show ptr (ups _ _ _ _) = _; rw [ups_at], cP⟩ ⟨fun hm => (m6 _ hm).elim (hnew bP (by omega)) (fun e => by omega), N.ro _⟩
 have hC : ∀ r, r.of ≠ some k → ups (ups (ups (ups (ups (ups (ups G.C (.rqs k) (.mi [])) (.exs k) (.mp [])) (.crd k) (.ws n ((List.replicate n c).map nv))) (.inb k) (.gr 2 0 [])) (.msg k) (.gr 6 0 [])) (.rcv k) (.gr 1 0 [])) (.pr k) (.cl [nk 1, .map (some bR), .map (some bE), nilS, nilS, nilS, .slice (some ⟨bC, 0, none⟩) n n]) r = G.C r := fun r hr => by
   rw [ups_ne _ _ (of_ne rfl hr), ups_ne _ _ (of_ne rfl hr), ups_ne _ _ (of_ne rfl hr), ups_ne _ _ (of_ne rfl hr), ups_ne _ _ (of_ne rfl hr), ups_ne _ _ (of_ne rfl hr), ups_ne _ _ (of_ne rfl hr)]
 have hp0 : ups (ups (ups (ups (ups (ups (ups G.C (.rqs k) (.mi [])) (.exs k) (.mp [])) (.crd k) (.ws n ((List.replicate n c).map nv))) (.inb k) (.gr 2 0 [])) (.msg k) (.gr 6 0 [])) (.rcv k) (.gr 1 0 [])) (.pr k) (.cl [nk 1, .map (some bR), .map (some bE), nilS, nilS, nilS, .slice (some ⟨bC, 0, none⟩) n n]) .prs ≠ .no := by rw [hC .prs (by simp [Ro.of]), N.prs]; simp
 have hw0 : ups (ups (ups (ups (ups (ups (ups (ups G.C (.rqs k) (.mi [])) (.exs k) (.mp [])) (.crd k) (.ws n ((List.replicate n c).map nv))) (.inb k) (.gr 2 0 [])) (.msg k) (.gr 6 0 [])) (.rcv k) (.gr 1 0 [])) (.pr k) (.cl [nk 1, .map (some bR), .map (some bE), nilS, nilS, nilS, .slice (some ⟨bC, 0, none⟩) n n])) .prs (.gr 1 (k + 1) ((List.range k).map (fun p => ptr (G.B (.pr p))) ++ [ptr bP])) .wd ≠ .no := by rw [ups_ne _ _ (by simp), hC .wd (by simp [Ro.of]), N.wd]; simp
 obtain ⟨O8, M8⟩ := O7.oS .prs v' (.gr 1 (k + 1) ((List.range k).map (fun p => ptr (G.B (.pr p))) ++ [ptr bP])) (fun _ => rfl) t1 (fun c hc => (hS c hc).imp (fun q => ⟨hp0, vb_vbx q⟩) id) g (fun d hd => by
   have hd2 : vb v' = some d := vbx_sl (by obtain ⟨a, e, f⟩ := g.sd.form; exact ⟨a, _, e, f⟩) hd
   rcases hv' d hd2 with q | q
   · exact .inl ⟨hp0, vb_vbx q⟩
   · exact .inr ⟨O7.new q, N.ro _⟩)
 obtain ⟨O9, M9⟩ := O8.putO .wd (G.B .wd) (G.S .wd) (.cl [nv e, v', .map (some (G.B .ways))]) t2 (fun d hd => .inl ⟨hw0, by subst hd; rfl⟩) ⟨G.B .wd, congrArg ptr (ups_at (ups (ups (ups G.B (.rqs k) bR) (.exs k) bE) (.pr k) bP) Ro.wd (G.B .wd)), cw⟩
   (fun d hd => .inl ⟨hw0, by
     have hB0 : ups (ups (ups (ups G.B (.rqs k) bR) (.exs k) bE) (.pr k) bP) .wd (G.B .wd) .wd = G.B .wd := ups_at _ _ _
     have h9 : ups (ups (ups (ups G.B (.rqs k) bR) (.exs k) bE) (.pr k) bP) .wd (G.B .wd) .wd = d := Option.some.inj hd
     exact congrArg some (hB0.symm.trans h9)⟩)
 have hCC : ∀ r p, r.of = some p → p ≠ k → (ups (ups (ups (ups (ups (ups (ups (ups (ups G.C (.rqs k) (.mi [])) (.exs k) (.mp [])) (.crd k) (.ws n ((List.replicate n c).map nv))) (.inb k) (.gr 2 0 [])) (.msg k) (.gr 6 0 [])) (.rcv k) (.gr 1 0 [])) (.pr k) (.cl [nk 1, .map (some bR), .map (some bE), nilS, nilS, nilS, .slice (some ⟨bC, 0, none⟩) n n])) .prs (.gr 1 (k + 1) ((List.range k).map (fun p => ptr (G.B (.pr p))) ++ [ptr bP]))) .wd (.cl [nv e, v', .map (some (G.B .ways))])) r = G.C r := fun r p hr hp => by
   have hk : r.of ≠ some k := by rw [hr]; simpa using hp
   rw [ups_ne _ _ (by intro h; rw [h] at hr; cases hr), ups_ne _ _ (by intro h; rw [h] at hr; cases hr), hC r hk]
 have hSS : ∀ r, r.of ≠ some k → r ≠ .prs → r ≠ .wd → (ups (ups (ups (ups (ups (ups G.S (.crd k) (.slice (some ⟨bC, 0, none⟩) n n)) (.inb k) nilS) (.msg k) nilS) (.rcv k) nilS) .prs v') .wd (G.S .wd)) r = G.S r := fun r hk h1 h2 => by
   rw [ups_ne _ _ h2, ups_ne _ _ h1, ups_ne _ _ (of_ne rfl hk), ups_ne _ _ (of_ne rfl hk), ups_ne _ _ (of_ne rfl hk), ups_ne _ _ (of_ne rfl hk)]
 have hBB : ∀ r, r.of ≠ some k → (ups (ups (ups (ups G.B (.rqs k) bR) (.exs k) bE) (.pr k) bP) .wd (G.B .wd)) r = G.B r := fun r hk => by
   by_cases e : r = .wd
   · subst e; exact ups_at _ _ _
   · rw [ups_ne _ _ e, ups_ne _ _ (of_ne rfl hk), ups_ne _ _ (of_ne rfl hk), ups_ne _ _ (of_ne rfl hk)]
 have hBk : (ups (ups (ups (ups G.B (.rqs k) bR) (.exs k) bE) (.pr k) bP) .wd (G.B .wd)) (.pr k) = bP := by rw [ups_ne _ _ (by simp), ups_at]
 have hSp : (ups (ups (ups (ups (ups (ups G.S (.crd k) (.slice (some ⟨bC, 0, none⟩) n n)) (.inb k) nilS) (.msg k) nilS) (.rcv k) nilS) .prs v') .wd (G.S .wd)) .prs = v' := by rw [ups_ne _ _ (by simp), ups_at]
 refine ⟨_, ⟨O9, fun b hb => ?_, N.ro, ?_, ?_, ?_, fun a b => ?_, fun p hp => ?_, fun p no => ?_, fun r p hr hkp => ?_⟩, hBB .wd (by simp [Ro.of])⟩
 · rcases M9 b hb with q | q
   · rcases M8 b q with q | q
     · rcases M7 b q with q | q
       · rcases m6 b q with q | q
         · exact N.mu b q
         · omega
       · omega
     · rcases hv' b (vbx_sl (by obtain ⟨a, e, f⟩ := g.sd.form; exact ⟨a, _, e, f⟩) q) with q | q
       · exact N.mu b ⟨.prs, by rw [N.prs]; simp, vb_vbx q⟩
       · have := t0.nx; omega
   · have hB0 : ups (ups (ups (ups G.B (.rqs k) bR) (.exs k) bE) (.pr k) bP) .wd (G.B .wd) .wd = G.B .wd := ups_at _ _ _
     have h9 : ups (ups (ups (ups G.B (.rqs k) bR) (.exs k) bE) (.pr k) bP) .wd (G.B .wd) .wd = b := Option.some.inj q
     exact N.mu b ⟨.wd, by rw [N.wd]; simp, congrArg some (hB0.symm.trans h9)⟩
 · show (ups (ups (ups (ups (ups (ups (ups (ups (ups G.C (.rqs k) (.mi [])) (.exs k) (.mp [])) (.crd k) (.ws n ((List.replicate n c).map nv))) (.inb k) (.gr 2 0 [])) (.msg k) (.gr 6 0 [])) (.rcv k) (.gr 1 0 [])) (.pr k) (.cl [nk 1, .map (some bR), .map (some bE), nilS, nilS, nilS, .slice (some ⟨bC, 0, none⟩) n n])) .prs (.gr 1 (k + 1) ((List.range k).map (fun p => ptr (G.B (.pr p))) ++ [ptr bP]))) .wd (.cl [nv e, v', .map (some (G.B .ways))])) .wd = .cl [nv e, (ups (ups (ups (ups (ups (ups G.S (.crd k) (.slice (some ⟨bC, 0, none⟩) n n)) (.inb k) nilS) (.msg k) nilS) (.rcv k) nilS) .prs v') .wd (G.S .wd)) .prs, .map (some ((ups (ups (ups (ups G.B (.rqs k) bR) (.exs k) bE) (.pr k) bP) .wd (G.B .wd)) .ways))]
   rw [hSp, hBB .ways (by simp [Ro.of]), ups_at]
 · show (ups (ups (ups (ups (ups (ups (ups (ups (ups G.C (.rqs k) (.mi [])) (.exs k) (.mp [])) (.crd k) (.ws n ((List.replicate n c).map nv))) (.inb k) (.gr 2 0 [])) (.msg k) (.gr 6 0 [])) (.rcv k) (.gr 1 0 [])) (.pr k) (.cl [nk 1, .map (some bR), .map (some bE), nilS, nilS, nilS, .slice (some ⟨bC, 0, none⟩) n n])) .prs (.gr 1 (k + 1) ((List.range k).map (fun p => ptr (G.B (.pr p))) ++ [ptr bP]))) .wd (.cl [nv e, v', .map (some (G.B .ways))])) .prs = .gr 1 (k + 1) ((List.range (k + 1)).map fun p => ptr ((ups (ups (ups (ups G.B (.rqs k) bR) (.exs k) bE) (.pr k) bP) .wd (G.B .wd)) (.pr p)))
   rw [ups_ne _ _ (show Ro.prs ≠ Ro.wd by simp), ups_at, List.range_succ, List.map_append]
   congr 2
   · refine List.map_congr_left fun p hp => ?_
     rw [hBB (.pr p) (by have := List.mem_range.1 hp; simp [Ro.of]; omega)]
   · show [ptr bP] = [ptr ((ups (ups (ups (ups G.B (.rqs k) bR) (.exs k) bE) (.pr k) bP) .wd (G.B .wd)) (.pr k))]
     rw [hBk]
 · show (ups (ups (ups (ups (ups (ups (ups (ups (ups G.C (.rqs k) (.mi [])) (.exs k) (.mp [])) (.crd k) (.ws n ((List.replicate n c).map nv))) (.inb k) (.gr 2 0 [])) (.msg k) (.gr 6 0 [])) (.rcv k) (.gr 1 0 [])) (.pr k) (.cl [nk 1, .map (some bR), .map (some bE), nilS, nilS, nilS, .slice (some ⟨bC, 0, none⟩) n n])) .prs (.gr 1 (k + 1) ((List.range k).map (fun p => ptr (G.B (.pr p))) ++ [ptr bP]))) .wd (.cl [nv e, v', .map (some (G.B .ways))])) .ways = _
   rw [ups_ne _ _ (show Ro.ways ≠ Ro.wd by simp), ups_ne _ _ (show Ro.ways ≠ Ro.prs by simp), hC .ways (by simp [Ro.of])]; exact N.ways
 · refine ⟨?_, ?_⟩
   · show (ups (ups (ups (ups (ups (ups (ups (ups (ups G.C (.rqs k) (.mi [])) (.exs k) (.mp [])) (.crd k) (.ws n ((List.replicate n c).map nv))) (.inb k) (.gr 2 0 [])) (.msg k) (.gr 6 0 [])) (.rcv k) (.gr 1 0 [])) (.pr k) (.cl [nk 1, .map (some bR), .map (some bE), nilS, nilS, nilS, .slice (some ⟨bC, 0, none⟩) n n])) .prs (.gr 1 (k + 1) ((List.range k).map (fun p => ptr (G.B (.pr p))) ++ [ptr bP]))) .wd (.cl [nv e, v', .map (some (G.B .ways))])) (.way a b) = _
     rw [ups_ne _ _ (show Ro.way a b ≠ Ro.wd by simp), ups_ne _ _ (show Ro.way a b ≠ Ro.prs by simp), hC (.way a b) (by simp [Ro.of])]; exact (N.way a b).1
   · show (ups (ups (ups (ups (ups (ups G.S (.crd k) (.slice (some ⟨bC, 0, none⟩) n n)) (.inb k) nilS) (.msg k) nilS) (.rcv k) nilS) .prs v') .wd (G.S .wd)) (.way a b) = _
     rw [hSS (.way a b) (by simp [Ro.of]) (by simp) (by simp)]; exact (N.way a b).2
 · by_cases epk : p = k
   · rw [epk]
     have hno : ∀ no, (ups (ups (ups (ups (ups (ups (ups (ups (ups G.C (.rqs k) (.mi [])) (.exs k) (.mp [])) (.crd k) (.ws n ((List.replicate n c).map nv))) (.inb k) (.gr 2 0 [])) (.msg k) (.gr 6 0 [])) (.rcv k) (.gr 1 0 [])) (.pr k) (.cl [nk 1, .map (some bR), .map (some bE), nilS, nilS, nilS, .slice (some ⟨bC, 0, none⟩) n n])) .prs (.gr 1 (k + 1) ((List.range k).map (fun p => ptr (G.B (.pr p))) ++ [ptr bP]))) .wd (.cl [nv e, v', .map (some (G.B .ways))])) (.rq k no) = .no := fun no => by
       rw [ups_ne _ _ (by simp), ups_ne _ _ (by simp), ups_ne _ _ (by simp), ups_ne _ _ (by simp), ups_ne _ _ (by simp), ups_ne _ _ (by simp), ups_ne _ _ (by simp), ups_ne _ _ (by simp), ups_ne _ _ (by simp)]
       exact N.non k no
     refine ⟨?_, ?_, fun _ hk => (List.not_mem_nil hk).elim, ?_, fun _ hk => (List.not_mem_nil hk).elim, ⟨[], ?_, .nil⟩, ⟨[], ?_, .nil⟩, ?_, fun _ hk => (List.not_mem_nil hk).elim, ?_, fun no hn => (hn (hno no)).elim, fun no hn => (hn (hno no)).elim, fun no hn => (hn (hno no)).elim, fun no hn => (hn (hno no)).elim⟩
     · show _ = Th.cl (prC _ _ k)
       simp [prC, Gh.put, Gh.putS, Gh.putB, ups, pr0]
     · simp [Gh.put, Gh.putS, Gh.putB, ups, pr0]
     · simp [Gh.put, Gh.putS, Gh.putB, ups, pr0]
     · simp [Gh.put, Gh.putS, Gh.putB, ups, pr0]
     · simp [Gh.put, Gh.putS, Gh.putB, ups, pr0]
     · simp [Gh.put, Gh.putS, Gh.putB, ups, pr0]
     · simp [Gh.put, Gh.putS, Gh.putB, ups, pr0]
   · have P : RelP (pr0 n c) (fun _ => rq0) G h2 p := (Ns.pr p (by omega)).mono (G' := G) rfl rfl rfl (fun v d H => ⟨H.1.sm ((t1.mono (S' := fun x => S x ∨ x = G.B .wd) fun _ => .inl).then (t2.mono fun _ => .inr)) (fun b hb _ => (N.ro b (H.2 b hb)).elim), H.2⟩)
     exact P.congr (fun r hr => ⟨hCC r p hr epk, hSS r (by rw [hr]; simpa using epk) (by intro h; rw [h] at hr; cases hr) (by intro h; rw [h] at hr; cases hr), hBB r (by rw [hr]; simpa using epk)⟩) rfl
 · have h1 : (ups (ups (ups (ups (ups (ups (ups (ups (ups G.C (.rqs k) (.mi [])) (.exs k) (.mp [])) (.crd k) (.ws n ((List.replicate n c).map nv))) (.inb k) (.gr 2 0 [])) (.msg k) (.gr 6 0 [])) (.rcv k) (.gr 1 0 [])) (.pr k) (.cl [nk 1, .map (some bR), .map (some bE), nilS, nilS, nilS, .slice (some ⟨bC, 0, none⟩) n n])) .prs (.gr 1 (k + 1) ((List.range k).map (fun p => ptr (G.B (.pr p))) ++ [ptr bP]))) .wd (.cl [nv e, v', .map (some (G.B .ways))])) (.rq p no) = G.C (.rq p no) := by
     rw [ups_ne _ _ (by simp), ups_ne _ _ (by simp), ups_ne _ _ (by simp), ups_ne _ _ (by simp), ups_ne _ _ (by simp), ups_ne _ _ (by simp), ups_ne _ _ (by simp), ups_ne _ _ (by simp), ups_ne _ _ (by simp)]
   exact h1.trans (N.non p no)
 · exact (hCC r p hr (by omega)).trans (N.no r p hr (by omega))
end
end
end Go.Arm
