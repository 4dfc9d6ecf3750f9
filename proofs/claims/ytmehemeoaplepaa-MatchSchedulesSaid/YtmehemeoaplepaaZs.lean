/- Worlds of the program and walks of its functions. -/
import Derived.Test.YtmehemeoaplepaaZp
import Derived.Test.YtmehemeoaplepaaZr
namespace Go.Proofs.Ytmehemeoaplepaa
noncomputable section
open Go Go.X Go.Arm Go.Mt
theorem lists_ok {W : Wd} {G : Gh} {h : AH} {p : Nat} (R : Rep W G h) (hp : p < W.n) :
  Arm.Calls Try.prog 18 [ptr (G.B .wd), nv (p : Int)] h (fun r => r.1 = .tuple ⟨[nv ((W.pr p).rcvs.length : Int), nv ((W.pr p).msgs.length : Int), nv (((W.pr p).reqs.map fun (k : Nat) => ((k : Int), ptr (G.B (.rq p k)))).length : Int), nv 0]⟩ ∧ Sm Nix h r.2) := by
 obtain ⟨cm, gm, lm⟩ := R.msg hp
 refine Calls_W 36 Try.f18 ?_
 have T0 : Sm Nix h h := .refl
 refine W_sg 4 kr (L_nil (W_sg 2 kr (L_c rfl rfl kr (at_ok (R.ext T0) hp) ?_)))
 rintro v300 h300 ⟨e300, t300⟩
 try dsimp only at e300
 try dsimp only at t300
 subst e300
 have T300 := T0.ext t300
 have N300 := T300.nx
 have M300 := t300.nx
 refine L_g 5 kr (L_nil (W_seq (W_sg 2 kr (L_nil ?_))))
 refine W_cond false kr (fun e => by cases e) (fun _ => ?_)
 refine W_skip (W_seq (W_drawn kr (D_l (l := [0,1,2,3,4,5,6,7,8,9,10,11,12,13,14,15,16,17,18,19,20]) kr kr Rk_nil (NS_b 4 kr (NS_ld _ rfl rfl kr kr kr (((R.ext T300).prL hp).ld (o := 5) kr rfl) (NS_ln _ rfl rfl kr kr kr ((((R.ext T300).rcv hp).lenV (T := 85) (el := 103) kr)) (NS_b 4 kr (NS_ld _ rfl rfl kr kr kr (((R.ext T300).prL hp).ld (o := 4) kr rfl) (NS_ln _ rfl rfl kr kr kr (((gm.ext T300).lenV (T := 82) (el := 117) kr)) (NS_b 3 kr (NS_ld _ rfl rfl kr kr kr (((R.ext T300).prL hp).ld (o := 1) kr rfl) ?_)))))))))))
 refine NS_ln _ rfl rfl kr kr kr ((((R.ext T300).rqs hp).1.len (P := Try.prog) (T := 78) (kt := 3) (el := 103) kr)) (NS_b 4 kr (NS_nil (W_ret ?_)))
 repeat first | with_reducible refine then_ret ?_ | with_reducible refine blk_ret ?_
 refine done_of (v := .tuple ⟨[nv ((W.pr p).rcvs.length : Int), nv ((W.pr p).msgs.length : Int), nv (((W.pr p).reqs.map fun (k : Nat) => ((k : Int), ptr (G.B (.rq p k)))).length : Int), nv 0]⟩) (.inl rfl) kr ?_
 exact ⟨rfl, T300⟩
structure Wl (h0 : AH) (W : Wd) (G : Gh) (va : Value) (la : List Value) (vc : Value) (lc : List Value) (h : AH) : Prop where
 R : Rep W G h
 O : Old h0 G h
 ga : Gr h 1 va la.length la
 gc : Gr h 1 vc lc.length lc
 ma : ∀ b, vb va = some b → h0.next ≤ b ∧ ¬ G.mut b ∧ ¬ G.ro b
 mc : ∀ b, vb vc = some b → h0.next ≤ b ∧ ¬ G.mut b ∧ ¬ G.ro b
 dj : ∀ b, vb va = some b → vb vc = some b → False
section
variable {h0 h h' : AH} {W W' : Wd} {G G' : Gh} {va vc v : Value} {la lc : List Value} {x : Value}
theorem Old.ext (O : Old h0 G h) (t : Sm Nix h h') : Old h0 G h' := ⟨O.sm.ext t, O.mu⟩
end
theorem el_by {h : AH} {v : Value} {d : By} {i : Nat} (H : Sd h 1 v d.length (d.map bv)) (hi : i < d.length) : ∃ b o, aIndex Try.prog 23 v (nv (i : Int)) = some (.pointer (some ⟨b, o, none⟩)) ∧ aLoad Try.prog 5 ⟨b, o, none⟩ h = some (.int .u8 (d[i].toNat : Int)) := by
 obtain ⟨b, o, _, h1, h2⟩ := H.at (P := Try.prog) (T := 23) (el := 5) kr kr hi .i64
 refine ⟨b, o, h1, ld_cell kr ?_⟩
 have := h2 0 (by decide)
 rw [Nat.add_zero, Nat.mul_one, Nat.add_zero, List.getElem?_map, List.getElem?_eq_getElem hi] at this
 exact this
end
end Go.Proofs.Ytmehemeoaplepaa

namespace Go.Proofs.Ytmehemeoaplepaa
noncomputable section
open Go Go.X Go.Arm Go.Mt
structure Wx (h0 : AH) (W : Wd) (G : Gh) (V : Nat → Value) (T : Nat → Tx) (h : AH) : Prop where
 R : Rep W G h
 O : Old h0 G h
 at_ : ∀ k, AtX h (V k) (T k)
 own : ∀ k b, T k ≠ .no → vbx (V k) = some b → h0.next ≤ b ∧ ¬ G.mut b ∧ ¬ G.ro b
 dj : ∀ k k' b, T k ≠ .no → T k' ≠ .no → vbx (V k) = some b → vbx (V k') = some b → k = k'
section
variable {h0 h h' : AH} {W W' : Wd} {G G' : Gh} {V : Nat → Value} {T : Nat → Tx} {v : Value} {x : Tx} {k : Nat}
theorem Wx.lt (H : Wx h0 W G V T h) {b : Nat} (hx : T k ≠ .no) (hb : vbx (V k) = some b) : b < h.next := (H.at_ k).lt hx hb
theorem Wx.nil (R : Rep W G h) (O : Old h0 G h) : Wx h0 W G V (fun _ => .no) h := ⟨R, O, fun _ => trivial, fun _ _ hx => (hx rfl).elim, fun _ _ _ hx => (hx rfl).elim⟩
theorem Wx.ext (H : Wx h0 W G V T h) (t : Sm Nix h h') : Wx h0 W G V T h' := ⟨H.R.ext t, H.O.ext t, fun k => (H.at_ k).sm t (fun _ _ x => x), H.own, H.dj⟩
theorem Wx.go (H : Wx h0 W G V T h) (Y : Gx G h G' h') (R' : Rep W' G' h') : Wx h0 W' G' V T h' :=
 ⟨R', H.O.go Y, fun k => by
  by_cases e : T k = .no
  · rw [e]; trivial
  · exact (H.at_ k).sm Y.sm fun b hb => (H.own k b e hb).2.1,
  fun k b hx hb => ⟨(H.own k b hx hb).1, fun e => (Y.mu b e).elim (H.own k b hx hb).2.1 fun e2 => by have := H.lt hx hb; omega, fun e => (Y.ron b e).elim (H.own k b hx hb).2.2 fun e2 => by have := H.lt hx hb; omega⟩, H.dj⟩
theorem Wx.upd (H : Wx h0 W G V T h) (k : Nat) {v : Value} {x : Tx} (A : AtX h' v x) (t : Sm (fun b => T k ≠ .no ∧ vbx (V k) = some b) h h') (f : ∀ b, vbx v = some b → (T k ≠ .no ∧ vbx (V k) = some b) ∨ h.next ≤ b) : Wx h0 W G (ups V k v) (ups T k x) h' := by
 have hne : ∀ j, j ≠ k → AtX h' (V j) (T j) := fun j hj => by
   by_cases e : T j = .no
   · rw [e]; trivial
   · exact (H.at_ j).sm t fun b hb hs => hj (H.dj j k b e hs.1 hb hs.2)
 refine ⟨H.R.sm t fun b hb => (H.own k b hb.1 hb.2).2, ⟨H.O.sm.then (t.mono fun b hb => (H.own k b hb.1 hb.2).1), H.O.mu⟩, fun j => ?_, fun j b hx hb => ?_, fun j j' b hx hx' hb hb' => ?_⟩
 · by_cases e : j = k
   · subst e; rw [ups_at, ups_at]; exact A
   · rw [ups_ne _ _ e, ups_ne _ _ e]; exact hne j e
 · by_cases e : j = k
   · subst e
     rw [ups_at] at hb
     exact (f b hb).elim (fun e => H.own j b e.1 e.2) fun e => ⟨Nat.le_trans H.O.sm.nx e, H.R.op.new e, H.R.op.newr e⟩
   · rw [ups_ne _ _ e] at hb hx; exact H.own j b hx hb
 · by_cases e : j = k
   · by_cases e' : j' = k
     · rw [e, e']
     · subst e
       rw [ups_at] at hb
       rw [ups_ne _ _ e'] at hb' hx'
       rcases f b hb with h1 | h1
       · exact H.dj j j' b h1.1 hx' h1.2 hb'
       · have := H.lt hx' hb'; omega
   · by_cases e' : j' = k
     · subst e'
       rw [ups_at] at hb'
       rw [ups_ne _ _ e] at hb hx
       rcases f b hb' with h1 | h1
       · exact H.dj j j' b hx h1.1 hb h1.2
       · have := H.lt hx hb; omega
     · rw [ups_ne _ _ e] at hb hx
       rw [ups_ne _ _ e'] at hb' hx'
       exact H.dj j j' b hx hx' hb hb'
end
abbrev W4 (h0 : AH) (W : Wd) (G : Gh) (v0 : Value) (x0 : Tx) (v1 : Value) (x1 : Tx) (v2 : Value) (x2 : Tx) (v3 : Value) (x3 : Tx) (h : AH) : Prop := Wx h0 W G (q4 (nv 0) v0 v1 v2 v3) (q4 .no x0 x1 x2 x3) h
section
variable {h0 h h' : AH} {W W' : Wd} {G G' : Gh} {v0 v1 v2 v3 v : Value} {x0 x1 x2 x3 x : Tx}
theorem W4.nil (R : Rep W G h) (O : Old h0 G h) : W4 h0 W G v0 .no v1 .no v2 .no v3 .no h := by
 have : (q4 .no .no .no .no .no : Nat → Tx) = fun _ => .no := by
  funext i; match i with | 0 => rfl | 1 => rfl | 2 => rfl | 3 => rfl | _ + 4 => rfl
 unfold W4
 rw [this]
 exact .nil R O
theorem W4.up0 (H : W4 h0 W G v0 x0 v1 x1 v2 x2 v3 x3 h) (A : AtX h' v x) (t : Sm (fun b => x0 ≠ .no ∧ vbx v0 = some b) h h') (f : ∀ b, vbx v = some b → (x0 ≠ .no ∧ vbx v0 = some b) ∨ h.next ≤ b) : W4 h0 W G v x v1 x1 v2 x2 v3 x3 h' := by
 have := Wx.upd H 0 A t f
 rw [q4_0, q4_0] at this; exact this
theorem W4.up1 (H : W4 h0 W G v0 x0 v1 x1 v2 x2 v3 x3 h) (A : AtX h' v x) (t : Sm (fun b => x1 ≠ .no ∧ vbx v1 = some b) h h') (f : ∀ b, vbx v = some b → (x1 ≠ .no ∧ vbx v1 = some b) ∨ h.next ≤ b) : W4 h0 W G v0 x0 v x v2 x2 v3 x3 h' := by
 have := Wx.upd H 1 A t f
 rw [q4_1, q4_1] at this; exact this
theorem W4.up2 (H : W4 h0 W G v0 x0 v1 x1 v2 x2 v3 x3 h) (A : AtX h' v x) (t : Sm (fun b => x2 ≠ .no ∧ vbx v2 = some b) h h') (f : ∀ b, vbx v = some b → (x2 ≠ .no ∧ vbx v2 = some b) ∨ h.next ≤ b) : W4 h0 W G v0 x0 v1 x1 v x v3 x3 h' := by
 have := Wx.upd H 2 A t f
 rw [q4_2, q4_2] at this; exact this
theorem W4.a0 (H : W4 h0 W G v0 x0 v1 x1 v2 x2 v3 x3 h) : AtX h v0 x0 := H.at_ 0
theorem W4.a1 (H : W4 h0 W G v0 x0 v1 x1 v2 x2 v3 x3 h) : AtX h v1 x1 := H.at_ 1
theorem W4.a2 (H : W4 h0 W G v0 x0 v1 x1 v2 x2 v3 x3 h) : AtX h v2 x2 := H.at_ 2
end
theorem AtX.row {T el : TypeId} {h : AH} {v : Value} {f : Nat → Value} {n i : Nat} (hT : Try.prog.underlying T = some (.slice el)) (hs : szOf Try.prog el = some 1) (hl : scalT Try.prog el = true) (A : AtX h v (.cl (rg f n))) (hi : i < n) : ∃ b, v = .slice (some ⟨b, 0, none⟩) n n ∧ b < h.next ∧ aIndex Try.prog T v (nv (i : Int)) = some (.pointer (some ⟨b, i, none⟩)) ∧ aLoad Try.prog el ⟨b, i, none⟩ h = some (f i) := by
 obtain ⟨b, rfl, c⟩ := A
 rw [rg_len]
 exact ⟨b, rfl, c.lt, ix_cl hT hs hi .i64, c.ld hl (rg_at hi)⟩
end
end Go.Proofs.Ytmehemeoaplepaa
namespace Go.Proofs.Ytmehemeoaplepaa
noncomputable section
open Go Go.X Go.Arm Go.Mt
theorem and3 : ∀ k : Fin 256, IntKind.i64.wrap (((BitVec.ofInt 64 (IntKind.i64.wrap ((k.val : Int) - 128))) &&& BitVec.ofInt 64 3).toNat : Int) = ((k.val : Int) - 128) % 4 := by decide +kernel
theorem and_ok {x : Int} (h0 : -128 ≤ x) (h1 : x < 128) {h : AH} {xo yo : Operand} (hr : aBin Try.prog .and 3 xo yo (.int .i64 (IntKind.i64.wrap x)) (nv 3) h = some (.int .i64 (IntKind.i64.wrap (((BitVec.ofInt 64 (IntKind.i64.wrap x)) &&& BitVec.ofInt 64 3).toNat : Int)))) : aBin Try.prog .and 3 xo yo (.int .i64 (IntKind.i64.wrap x)) (nv 3) h = some (nv (x % 4)) := by
 have e := and3 ⟨(x + 128).toNat, by omega⟩
 have e2 : (((x + 128).toNat : Nat) : Int) - 128 = x := by omega
 dsimp only at e
 rw [e2] at e
 rw [hr, e]; rfl
theorem tagOf_ok {h : AH} {m : Mo} (hm : m.ok) :
  Arm.Calls Try.prog 11 [.agg ⟨mo6 m⟩] h (fun r => r.1 = nv (tgO m) ∧ Sm Nix h r.2) := by
 refine Calls_W 7 Try.f11 ?_
 have T0 : Sm Nix h h := .refl
 refine W_seq (W_region (L_nwc [.int .u8 (m.p : Int), .int .u8 (m.q : Int), .bool m.snd, .int .i8 m.tag, .int .u8 (m.size : Int), .bool m.sync] .ptr rfl rfl kr fun h326 c326 t326 n326 => ?_))
 have T326 := T0.ext t326
 have N326 := T326.nx
 refine L_g 1 kr (L_nil (W_sg 1 kr (L_ld _ rfl rfl kr (c326.ld (o := 3) kr rfl) (L_g 1 kr (L_p (nv (tgO m)) rfl (ev_bin (o := _) rfl kr kr (and_ok hm.t0 hm.t1 kr)) (L_g 1 kr (L_nil (W_ret ?_))))))))
 repeat first | with_reducible refine then_ret ?_ | with_reducible refine blk_ret ?_
 refine done_of (v := nv (tgO m)) (.inl rfl) kr ?_
 exact ⟨rfl, T326⟩
end
end Go.Proofs.Ytmehemeoaplepaa
namespace Go.Proofs.Ytmehemeoaplepaa
noncomputable section
open Go Go.X Go.Arm Go.Mt
theorem Rk_nw {P : Program} {h : AH} {n : Nat} {ops : Array Oper} {f : Fr} {i : Nat} {r : List Nat} {o : Oper} (ho : ops[i]? = some o) (hw : wantF n ops o f = false) (k : Rk P n ops f h r) : Rk P n ops f h (i :: r) :=
 Rk_no ho (fun t ht => by rw [wantF_ok, ht]; exact hw) k
theorem conv8 {h : AH} {x : Nat} (hx : x < 256) : aConv Try.prog 5 3 (.int .u8 (x : Int)) h = some (nv (x : Int)) := by
 have e : aConv Try.prog 5 3 (.int .u8 (x : Int)) h = some (.int .i64 (IntKind.i64.wrap (x : Int))) := by kernel_rfl
 have e2 : IntKind.i64.wrap (x : Int) = x := by rw [IntKind.wrap_i64]; omega
 rw [e, e2]; rfl
theorem convB {h : AH} {x : Nat} (hx : x < 256) : aConv Try.prog 3 5 (nv (x : Int)) h = some (.int .u8 (x : Int)) := by
 have e : aConv Try.prog 3 5 (nv (x : Int)) h = some (.int .u8 (IntKind.u8.wrap (x : Int))) := by kernel_rfl
 have e2 : IntKind.u8.wrap (x : Int) = x := by
  have : ∀ k : Fin 256, IntKind.u8.wrap (k.val : Int) = (k.val : Int) := by decide +kernel
  exact this ⟨x, hx⟩
 rw [e, e2]
theorem rem_lit {h : AH} {xo yo : Operand} {x E : Nat} {c : Int} (hc : 0 < c) (hE : x % c.toNat = E) (hr : aBin Try.prog .rem 3 xo yo (nv (x : Int)) (nv c) h = some (nv (Int.tmod (x : Int) c))) : aBin Try.prog .rem 3 xo yo (nv (x : Int)) (nv c) h = some (nv (E : Int)) := by
 have : Int.tmod (x : Int) c = (E : Int) := by
  rw [Int.tmod_eq_emod_of_nonneg (by omega), ← hE, Int.natCast_emod, Int.toNat_of_nonneg (by omega)]
 rw [hr, this]
theorem quo_lit {h : AH} {xo yo : Operand} {x E : Nat} {c : Int} (hx : x < 256) (hc : 0 < c) (hE : x / c.toNat = E) (hr : aBin Try.prog .quo 3 xo yo (nv (x : Int)) (nv c) h = some (.int .i64 (IntKind.i64.wrap (Int.tdiv (x : Int) c)))) : aBin Try.prog .quo 3 xo yo (nv (x : Int)) (nv c) h = some (nv (E : Int)) := by
 have e1 : Int.tdiv (x : Int) c = (E : Int) := by
  rw [Int.tdiv_eq_ediv_of_nonneg (by omega), ← hE, Int.natCast_ediv, Int.toNat_of_nonneg (by omega)]
 have e2 : E < 256 := by rw [← hE]; exact Nat.lt_of_le_of_lt (Nat.div_le_self _ _) hx
 have e3 : IntKind.i64.wrap (E : Int) = E := by rw [IntKind.wrap_i64]; omega
 rw [hr, e1, e3]; rfl
theorem rem_n {h : AH} {xo yo : Operand} {x n : Nat} (hn : 0 < n ∧ n < 5) : aBin Try.prog .rem 3 xo yo (nv (x : Int)) (nv (n : Int)) h = some (nv ((x % n : Nat) : Int)) := by
 have : n = 1 ∨ n = 2 ∨ n = 3 ∨ n = 4 := by omega
 rcases this with rfl | rfl | rfl | rfl
 · exact rem_lit (c := 1) (by decide) rfl kr
 · exact rem_lit (c := 2) (by decide) rfl kr
 · exact rem_lit (c := 3) (by decide) rfl kr
 · exact rem_lit (c := 4) (by decide) rfl kr
theorem add_ii {a b : Int} {n : Nat} (h1 : a + b = n) (h2 : n < 1000) : Value.int .i64 (IntKind.i64.wrap (a + b)) = nv (n : Int) := by
 have : IntKind.i64.wrap (a + b) = (n : Int) := by rw [IntKind.wrap_i64]; omega
 rw [this]; rfl
theorem el_mo {h : AH} {v : Value} {l : List Mo} {i : Nat} {m : Mo} (H : Sd h 6 v l.length (l.flatMap mo6)) (hi : l[i]? = some m) : ∃ b o, aIndex Try.prog 22 v (nv (i : Int)) = some (.pointer (some ⟨b, o, none⟩)) ∧ aLoad Try.prog 32 ⟨b, o, none⟩ h = some (.agg ⟨mo6 m⟩) ∧ b < h.next ∧ vb v = some b := by
 have hi' : i < l.length := (List.getElem?_eq_some_iff.1 hi).1
 obtain ⟨b, o, hv, h1, h2⟩ := H.at (P := Try.prog) (T := 22) (el := 32) kr kr hi' .i64
 refine ⟨b, o, h1, ld_l kr fun j hj => ?_, H.lt hv, hv⟩
 rw [h2 j hj]
 exact flat_at mo6 mo6_len hi hj
def wv (w : Nat → Option Nat) (j : Nat) : Value := match w j with
 | none => nv (-1)
 | some i => nv (i : Int)
end
end Go.Proofs.Ytmehemeoaplepaa
namespace Go.Proofs.Ytmehemeoaplepaa
noncomputable section
open Go Go.X Go.Arm Go.Mt
theorem fill_step {α : Type} {x z : α} {i n : Nat} : rg (ups (fun j => if j < i then x else z) i x) n = rg (fun j => if j < i + 1 then x else z) n := rg_congr fun j _ => by
 by_cases e : j = i
 · subst e; rw [ups_at, if_pos (by omega)]
 · rw [ups_ne _ _ e]
   by_cases h : j < i
   · rw [if_pos h, if_pos (by omega)]
   · rw [if_neg h, if_neg (by omega)]
theorem wv_ups {w : Nat → Option Nat} {j i : Nat} : ups (wv w) j (nv (i : Int)) = wv (ups w j (some i)) := by
 funext x
 by_cases e : x = j
 · subst e; rw [ups_at]; unfold wv; rw [ups_at]
 · rw [ups_ne _ _ e]; unfold wv; rw [ups_ne _ _ e]
theorem wv_n {w : Nat → Option Nat} {j n : Nat} (hj : j < n) (h : w j = none) : (rg (wv w) n)[j]? = some (nv (-1)) := by rw [rg_at hj]; unfold wv; rw [h]
theorem wv_s {w : Nat → Option Nat} {j n k : Nat} (hj : j < n) (h : w j = some k) : (rg (wv w) n)[j]? = some (nv (k : Int)) := by rw [rg_at hj]; unfold wv; rw [h]
theorem cmp8 {h : AH} {xo yo : Operand} {x : Int} {b : Bool} (hb : decide (x ≥ 0) = b) : aBin Try.prog .geq 30 xo yo (.int .i8 x) (.int .i8 0) h = some (.bool b) := by
 have e : aBin Try.prog .geq 30 xo yo (.int .i8 x) (.int .i8 0) h = some (.bool (decide (x ≥ 0))) := by kernel_rfl
 rw [e, hb]
theorem cnd_cases {n i j : Nat} {l : List Mo} {m r : Mo} {w : Nat → Option Nat} (hm : l[i]? = some m) (hs : m.snd = true) (hr : l[j]? = some r) :
  (r.snd = true ∧ cnd (spS n l) w i j = false) ∨ (r.snd = false ∧ (∃ k, w j = some k) ∧ cnd (spS n l) w i j = false) ∨ (r.snd = false ∧ w j = none ∧ r.p % n ≠ m.q % n ∧ cnd (spS n l) w i j = false) ∨
  (r.snd = false ∧ w j = none ∧ r.p % n = m.q % n ∧ r.q % n ≠ m.p % n ∧ cnd (spS n l) w i j = false) ∨ (r.snd = false ∧ w j = none ∧ r.p % n = m.q % n ∧ r.q % n = m.p % n ∧ ¬ 0 ≤ r.tag ∧ cnd (spS n l) w i j = true) ∨
  (r.snd = false ∧ w j = none ∧ r.p % n = m.q % n ∧ r.q % n = m.p % n ∧ 0 ≤ r.tag ∧ tgO r = tgO m ∧ cnd (spS n l) w i j = true) ∨ (r.snd = false ∧ w j = none ∧ r.p % n = m.q % n ∧ r.q % n = m.p % n ∧ 0 ≤ r.tag ∧ tgO r ≠ tgO m ∧ cnd (spS n l) w i j = false) := by
 unfold cnd
 rw [spS_send hr]
 cases hrs : r.snd with
 | true => exact .inl ⟨rfl, rfl⟩
 | false =>
  refine .inr ?_
  cases hw : w j with
  | some k => exact .inl ⟨rfl, ⟨k, rfl⟩, rfl⟩
  | none =>
   refine .inr ?_
   have e : ((!false) && (Option.isNone (none : Option Nat) && fitA (spS n l) i j)) = ((r.p % n == m.q % n) && (((r.q % n : Nat) : Int) == ((m.p % n : Nat) : Int)) && ((if r.tag < 0 then (-1 : Int) else tgO r) == -1 || (if r.tag < 0 then (-1 : Int) else tgO r) == tgO m)) := by
     unfold fitA
     rw [spS_r hr hrs, spS_s hm hs]
     show ((r.p % n == ((m.q % n : Nat) : Int).toNat) && _ && _) = _
     rw [Int.toNat_natCast]
   rw [e]
   by_cases h1 : r.p % n = m.q % n
   · by_cases h2 : r.q % n = m.p % n
     · by_cases h3 : 0 ≤ r.tag
       · have h0 := tgO_r r
         have h5 : (tgO r == -1) = false := by rw [beq_eq_false_iff_ne]; omega
         by_cases h4 : tgO r = tgO m
         · exact .inr (.inr (.inr (.inl ⟨rfl, rfl, h1, h2, h3, h4, by rw [if_neg (by omega), h1, h2, h4]; simp⟩)))
         · exact .inr (.inr (.inr (.inr ⟨rfl, rfl, h1, h2, h3, h4, by rw [if_neg (by omega), h5, beq_eq_false_iff_ne.2 h4]; simp⟩)))
       · exact .inr (.inr (.inl ⟨rfl, rfl, h1, h2, h3, by rw [if_pos (by omega), h1, h2]; simp⟩))
     · exact .inr (.inl ⟨rfl, rfl, h1, h2, by rw [beq_eq_false_iff_ne.2 (show ((r.q % n : Nat) : Int) ≠ ((m.p % n : Nat) : Int) by omega)]; simp⟩)
   · exact .inl ⟨rfl, rfl, h1, by rw [beq_eq_false_iff_ne.2 h1]; simp⟩
set_option maxHeartbeats 2000000 in
theorem matches_ok {h : AH} {n : Nat} {sv : Value} {l : List Mo} (hn : 0 < n ∧ n < 5) (hl : ∀ m, m ∈ l → m.ok) (hlen : l.length ≤ 24) (Hl : Sd h 6 sv l.length (l.flatMap mo6)) :
  Arm.Calls Try.prog 17 [nv (n : Int), sv] h (fun r => ∃ b, r.1 = .slice (some ⟨b, 0, none⟩) l.length l.length ∧ Cl r.2 b (rg (wv (wa (spS n l) l.length l.length)) l.length) ∧ h.next ≤ b ∧ Sm Nix h r.2) := by
 refine Calls_W 94 Try.f17 ?_
 have T0 : Sm Nix h h := .refl
 refine W_sg 1 kr (L_nil (W_sg 1 kr (L_ln _ rfl rfl kr (Sd.len (P := Try.prog) (T := 22) (el := 32) kr (Hl.ext T0)) (L_nwc (zrep l.length [nv 0]) (.sl l.length l.length) rfl rfl (ev_mkK (P := Try.prog) (k := 1) (el := 3) (z := nv 0) (by_ := 8) kr kr kr kr rfl (by omega) kr kr) fun h327 c327 t327 n327 => ?_))))
 have T327 := T0.ext t327
 have N327 := T327.nx
 rw [rg_const] at c327
 refine L_g 1 kr (L_nil (W_seq (W_sg 1 kr (L_ln _ rfl rfl kr (Sd.len (P := Try.prog) (T := 29) (el := 3) kr (c327.sd (rg_len _ _))) (L_g 1 kr (L_nil (W_block ?_)))))))
 refine W_loop (fun mm fr hh => ∃ (i : Nat), (i ≤ l.length) ∧ mm = l.length - i ∧ fr 0 = nv (n : Int) ∧ fr 1 = sv ∧ fr 5 = .slice (some ⟨h.next, 0, none⟩) l.length l.length ∧ fr 15 = nv (l.length : Int) ∧ fr 16 = nv (i : Int) ∧ Sm Nix h hh ∧ Cl hh (h.next) (rg (fun j => if j < i then nv (-1) else nv 0) l.length)) (l.length) ?_ ?_
 ·
  rw [rg_congr (g := fun j => if j < 0 then nv (-1) else nv 0) (fun j _ => by rw [if_neg (by omega)])] at c327
  exact ⟨0, Nat.zero_le _, rfl, kr, kr, kr, kr, kr, T327, c327⟩
 rintro mm328 fr328 h328 ⟨i, hi, hm328, y328_0, y328_1, y328_5, y328_15, y328_16, T328, c327⟩
 have N328 := T328.nx
 have B328_t13 := c327.lt
 refine W_set (k := 0) y328_0 (W_set (k := 1) y328_1 (W_set (k := 5) y328_5 (W_set (k := 15) y328_15 (W_set (k := 16) y328_16 (W_seq (W_region (L_i ((i : Int)) ((l.length : Int)) (.bool (decide ((i : Int) < (l.length : Int)))) rfl rfl kr kr rfl (rfl) (L_nil (W_seq ?_)))))))))
 refine W_cond (decide ((i : Int) < (l.length : Int))) kr (fun hb => ?_) (fun hb => ?_)
 ·
  have hlt : i < l.length := by simp at hb; omega
  refine W_skip (W_seq (W_block (W_sg 2 kr (L_nil (W_rg 2 kr (L_ix _ rfl rfl kr kr (ix_cl (b := h.next) (el := 3) kr kr hlt .i64) ?_))))))
  obtain ⟨h329, e329, d329, t329, n329⟩ := c327.store (P := Try.prog) (T := 3) (o := i) (v := nv (-1)) kr rfl rfl (by rw [rg_len]; exact hlt)
  rw [rg_set, fill_step] at d329
  replace c327 := d329
  have T329 := T328.tr t329
  have N329 := T329.nx
  refine L_st _ rfl rfl rfl kr kr (e329) (L_nil (W_region (L_i ((i : Int)) (1) (nv ((i + 1 : Nat) : Int)) rfl rfl kr kr rfl (inc_ok (by omega)) (L_g 1 kr (L_nil ?_)))))
  exact ⟨l.length - (i + 1), by omega, i + 1, by omega, rfl, kr, kr, kr, kr, kr, T329, c327⟩
 ·
  have hge : i = l.length := by simp at hb; omega
  subst hge
  refine W_exit ?_
  repeat with_reducible refine then_exit ?_
  refine exit_here (W_seq (W_sg 1 kr (L_ln _ rfl rfl kr (Sd.len (P := Try.prog) (T := 22) (el := 32) kr (Hl.ext T328)) (L_g 1 kr (L_nil (W_block ?_))))))
  refine W_loop (fun mm fr hh => ∃ (i : Nat), (i ≤ l.length) ∧ mm = l.length - i ∧ fr 0 = nv (n : Int) ∧ fr 1 = sv ∧ fr 5 = .slice (some ⟨h.next, 0, none⟩) l.length l.length ∧ fr 23 = sv ∧ fr 24 = nv (l.length : Int) ∧ fr 25 = nv (i : Int) ∧ Sm Nix h hh ∧ Cl hh (h.next) (rg (wv (wa (spS n l) l.length i)) l.length)) (l.length) ?_ ?_
  ·
   rw [rg_congr (g := wv (wa (spS n l) l.length 0)) (fun j hj => by rw [if_pos hj]; rfl)] at c327
   exact ⟨0, Nat.zero_le _, rfl, kr, kr, kr, kr, kr, kr, T328, c327⟩
  rintro mm330 fr330 h330 ⟨i, hi, hm330, y330_0, y330_1, y330_5, y330_23, y330_24, y330_25, T330, c327⟩
  have N330 := T330.nx
  have B330_t13 := c327.lt
  refine W_set (k := 0) y330_0 (W_set (k := 1) y330_1 (W_set (k := 5) y330_5 (W_set (k := 23) y330_23 (W_set (k := 24) y330_24 (W_set (k := 25) y330_25 (W_seq (W_region (L_i ((i : Int)) ((l.length : Int)) (.bool (decide ((i : Int) < (l.length : Int)))) rfl rfl kr kr rfl (rfl) (L_nil (W_seq ?_))))))))))
  refine W_cond (decide ((i : Int) < (l.length : Int))) kr (fun hb => ?_) (fun hb => ?_)
  ·
   have hlt : i < l.length := by simp at hb; omega
   obtain ⟨m, hm⟩ : ∃ m, l[i]? = some m := ⟨_, List.getElem?_eq_getElem hlt⟩
   have hmo := hl m (List.mem_of_getElem? hm)
   obtain ⟨b9, o9, i9, l9, -, -⟩ := el_mo (Hl.ext T330) hm
   refine W_skip (W_seq (W_block (W_sg 1 kr (L_ix _ rfl rfl kr kr (i9) (L_ld _ rfl rfl kr (l9) (L_nwc [.int .u8 0, .int .u8 0, .bool false, .int .i8 0, .int .u8 0, .bool false] .ptr rfl rfl kr fun h331 c331 t331 n331 => ?_))))))
   replace c327 := c327.ext t331
   have T331 := T330.ext t331
   have N331 := T331.nx
   refine L_g 1 kr ?_
   obtain ⟨h332, e332, d332, t332, n332⟩ := c331.sA 32 [.int .u8 (m.p : Int), .int .u8 (m.q : Int), .bool m.snd, .int .i8 m.tag, .int .u8 (m.size : Int), .bool m.sync]
   replace c327 := c327.sn t332
   replace c331 := d332
   have T332 := T331.tr t332
   have N332 := T332.nx
   refine L_st _ rfl rfl rfl kr kr (e332) (L_nil (W_seq (W_sg 1 kr (L_ld _ rfl rfl kr (c331.ld (o := 2) kr rfl) (L_g 1 kr (L_nil ?_))))))
   refine W_cond (!m.snd) kr (fun hb => ?_) (fun hb => ?_)
   ·
    have hb1 := hb
    refine W_exit ?_
    repeat with_reducible refine then_exit ?_
    refine exit_here (W_region (L_i ((i : Int)) (1) (nv ((i + 1 : Nat) : Int)) rfl rfl kr kr rfl (inc_ok (by omega)) (L_g 1 kr (L_nil ?_))))
    have e8 : wa (spS n l) l.length (i + 1) = wa (spS n l) l.length i := wa_skip (by rw [spS_send hm]; simpa using hb1)
    rw [← e8] at c327
    exact ⟨l.length - (i + 1), by omega, i + 1, by omega, rfl, kr, kr, kr, kr, kr, kr, T332, c327⟩
   ·
    have hms : m.snd = true := by simpa using hb
    refine W_skip (W_sg 1 kr (L_ln _ rfl rfl kr (Sd.len (P := Try.prog) (T := 22) (el := 32) kr (Hl.ext T332)) (L_g 1 kr (L_nil (W_block ?_)))))
    refine W_loop (fun mm fr hh => ∃ (j : Nat), (j ≤ l.length) ∧ (∀ x, x < j → cnd (spS n l) (wa (spS n l) l.length i) i x = false) ∧ mm = l.length - j ∧ fr 0 = nv (n : Int) ∧ fr 1 = sv ∧ fr 5 = .slice (some ⟨h.next, 0, none⟩) l.length l.length ∧ fr 7 = nv (i : Int) ∧ fr 8 = ptr (h330.next) ∧ fr 23 = sv ∧ fr 24 = nv (l.length : Int) ∧ fr 25 = nv (i : Int) ∧ fr 33 = sv ∧ fr 34 = nv (l.length : Int) ∧ fr 35 = nv (j : Int) ∧ Sm Nix h hh ∧ Cl hh (h.next) (rg (wv (wa (spS n l) l.length i)) l.length) ∧ Cl hh (h330.next) [.int .u8 (m.p : Int), .int .u8 (m.q : Int), .bool m.snd, .int .i8 m.tag, .int .u8 (m.size : Int), .bool m.sync]) (l.length) ?_ ?_
    ·
     exact ⟨0, Nat.zero_le _, fun x hx => absurd hx (Nat.not_lt_zero _), rfl, kr, kr, kr, kr, kr, kr, kr, kr, kr, kr, kr, T332, c327, c331⟩
    rintro mm333 fr333 h333 ⟨j, hj, hno, hm333, y333_0, y333_1, y333_5, y333_7, y333_8, y333_23, y333_24, y333_25, y333_33, y333_34, y333_35, T333, c327, c331⟩
    have N333 := T333.nx
    have B333_t13 := c327.lt
    have B333_t8 := c331.lt
    refine W_set (k := 0) y333_0 (W_set (k := 1) y333_1 (W_set (k := 5) y333_5 (W_set (k := 7) y333_7 (W_set (k := 8) y333_8 (W_set (k := 23) y333_23 (W_set (k := 24) y333_24 (W_set (k := 25) y333_25 (W_set (k := 33) y333_33 (W_set (k := 34) y333_34 (W_set (k := 35) y333_35 (W_seq ?_)))))))))))
    refine W_region (L_i ((j : Int)) ((l.length : Int)) (.bool (decide ((j : Int) < (l.length : Int)))) rfl rfl kr kr rfl (rfl) (L_nil (W_seq ?_)))
    refine W_cond (decide ((j : Int) < (l.length : Int))) kr (fun hb => ?_) (fun hb => ?_)
    ·
     have hlj : j < l.length := by simp at hb; omega
     obtain ⟨r, hr⟩ : ∃ r, l[j]? = some r := ⟨_, List.getElem?_eq_getElem hlj⟩
     have hro := hl r (List.mem_of_getElem? hr)
     obtain ⟨b7, o7, i7, l7, -, -⟩ := el_mo (Hl.ext T333) hr
     refine W_skip (W_seq (W_block (W_sg 1 kr (L_ix _ rfl rfl kr kr (i7) (L_ld _ rfl rfl kr (l7) (L_nwc [.int .u8 0, .int .u8 0, .bool false, .int .i8 0, .int .u8 0, .bool false] .ptr rfl rfl kr fun h334 c334 t334 n334 => ?_))))))
     replace c327 := c327.ext t334
     replace c331 := c331.ext t334
     have T334 := T333.ext t334
     have N334 := T334.nx
     refine L_g 1 kr ?_
     obtain ⟨h335, e335, d335, t335, n335⟩ := c334.sA 32 [.int .u8 (r.p : Int), .int .u8 (r.q : Int), .bool r.snd, .int .i8 r.tag, .int .u8 (r.size : Int), .bool r.sync]
     replace c327 := c327.sn t335
     replace c331 := c331.sn t335
     replace c334 := d335
     have T335 := T334.tr t335
     have N335 := T335.nx
     refine L_st _ rfl rfl rfl kr kr (e335) (L_nil (W_seq (W_seq ?_)))
     rcases cnd_cases (n := n) (w := (wa (spS n l) l.length i)) hm hms hr with ⟨hrs, hcnd⟩ | ⟨hrs, ⟨k, hw⟩, hcnd⟩ | ⟨hrs, hw, hp, hcnd⟩ | ⟨hrs, hw, hp, hp2, hcnd⟩ | ⟨hrs, hw, hp, hp2, ht, hcnd⟩ | ⟨hrs, hw, hp, hp2, ht, hq, hcnd⟩ | ⟨hrs, hw, hp, hp2, ht, hq, hcnd⟩
     ·
      rw [hrs] at c334
      refine W_drawn kr (D_e (e := 41) (l := [0,1,2,3,4,5,6,7,8,9,10,11,12,13,14,15,16,17,18,19,20,21,22,23,24,25,26,27,28,29,30,31,32,33,34,35,36,37,38,39,40,42]) (s' := [42]) kr kr rfl kr Rk_nil (NS_b 1 kr (NS_ld _ rfl rfl kr kr kr (c334.ld (o := 2) kr rfl) (NS_b 40 kr (NS_nil (L_not kr kr ?_))))))
      refine L_nil ⟨rfl, ?_⟩
      refine D_e (e := 43) (l := []) (s' := []) kr kr rfl kr (Rk_nw rfl kr Rk_nil) (NS_nil (L_not kr kr ?_))
      refine L_nil ⟨rfl, ?_⟩
      refine D_l (l := [44,45,46]) kr kr Rk_nil (NS_b 3 kr (NS_nil ?_))
      refine W_cond true kr (fun _ => ?_) (fun e => by cases e)
      refine W_exit ?_
      repeat with_reducible refine then_exit ?_
      refine exit_here (W_region (L_i ((j : Int)) (1) (nv ((j + 1 : Nat) : Int)) rfl rfl kr kr rfl (inc_ok (by omega)) (L_g 1 kr (L_nil ?_))))
      exact ⟨l.length - (j + 1), by omega, j + 1, by omega, (fun x hx => (Nat.lt_succ_iff_lt_or_eq.1 hx).elim (hno x) (fun e => by rw [e]; exact hcnd)), rfl, kr, kr, kr, kr, kr, kr, kr, kr, kr, kr, kr, T335, c327, c331⟩
     ·
      rw [hrs] at c334
      refine W_drawn kr (D_e (e := 41) (l := [0,1,2,3,4,5,6,7,8,9,10,11,12,13,14,15,16,17,18,19,20,21,22,23,24,25,26,27,28,29,30,31,32,33,34,35,36,37,38,39,40,42]) (s' := [42]) kr kr rfl kr Rk_nil (NS_b 1 kr (NS_ld _ rfl rfl kr kr kr (c334.ld (o := 2) kr rfl) (NS_b 3 kr (NS_ix _ rfl rfl kr kr kr kr (ix_cl (b := h.next) (el := 3) kr kr hlj .i64) (NS_ld _ rfl rfl kr kr kr (c327.ld (o := j) kr (wv_s hlj hw)) (NS_i ((k : Int)) (0) (.bool true) rfl rfl kr kr kr kr rfl (by first | (simp; done) | (simp; omega)) (NS_b 34 kr (NS_nil (L_not kr kr ?_))))))))))
      refine L_nil ⟨rfl, ?_⟩
      refine D_e (e := 43) (l := []) (s' := []) kr kr rfl kr (Rk_nw rfl kr Rk_nil) (NS_nil (L_not kr kr ?_))
      refine L_nil ⟨rfl, ?_⟩
      refine D_l (l := [44,45,46]) kr kr Rk_nil (NS_b 3 kr (NS_nil ?_))
      refine W_cond true kr (fun _ => ?_) (fun e => by cases e)
      refine W_exit ?_
      repeat with_reducible refine then_exit ?_
      refine exit_here (W_region (L_i ((j : Int)) (1) (nv ((j + 1 : Nat) : Int)) rfl rfl kr kr rfl (inc_ok (by omega)) (L_g 1 kr (L_nil ?_))))
      exact ⟨l.length - (j + 1), by omega, j + 1, by omega, (fun x hx => (Nat.lt_succ_iff_lt_or_eq.1 hx).elim (hno x) (fun e => by rw [e]; exact hcnd)), rfl, kr, kr, kr, kr, kr, kr, kr, kr, kr, kr, kr, T335, c327, c331⟩
     ·
      rw [hrs] at c334
      refine W_drawn kr (D_e (e := 41) (l := [0,1,2,3,4,5,6,7,8,9,10,11,12,13,14,15,16,17,18,19,20,21,22,23,24,25,26,27,28,29,30,31,32,33,34,35,36,37,38,39,40,42]) (s' := [42]) kr kr rfl kr Rk_nil (NS_b 1 kr (NS_ld _ rfl rfl kr kr kr (c334.ld (o := 2) kr rfl) (NS_b 3 kr (NS_ix _ rfl rfl kr kr kr kr (ix_cl (b := h.next) (el := 3) kr kr hlj .i64) (NS_ld _ rfl rfl kr kr kr (c327.ld (o := j) kr (wv_n hlj hw)) (NS_i (-1) (0) (.bool false) rfl rfl kr kr kr kr rfl (by first | (simp; done) | (simp; omega)) (NS_b 3 kr (NS_ld _ rfl rfl kr kr kr (c334.ld (o := 0) kr rfl) (NS_v (nv (r.p : Int)) rfl kr rfl kr (ev_conv (o := _) rfl kr (conv8 (hro.p))) (NS_b 1 kr ?_)))))))))))
      refine NS_v (nv ((r.p % n : Nat) : Int)) rfl kr rfl kr (ev_bin (o := _) rfl kr kr (rem_n hn)) (NS_b 1 kr (NS_ld _ rfl rfl kr kr kr (c331.ld (o := 1) kr rfl) (NS_v (nv (m.q : Int)) rfl kr rfl kr (ev_conv (o := _) rfl kr (conv8 (hmo.q))) (NS_b 1 kr (NS_v (nv ((m.q % n : Nat) : Int)) rfl kr rfl kr (ev_bin (o := _) rfl kr kr (rem_n hn)) (NS_i (((r.p % n : Nat) : Int)) (((m.q % n : Nat) : Int)) (.bool true) rfl rfl kr kr kr kr rfl (by simp; omega) (NS_b 21 kr (NS_nil (L_not kr kr ?_)))))))))
      refine L_nil ⟨rfl, ?_⟩
      refine D_e (e := 43) (l := []) (s' := []) kr kr rfl kr (Rk_nw rfl kr Rk_nil) (NS_nil (L_not kr kr ?_))
      refine L_nil ⟨rfl, ?_⟩
      refine D_l (l := [44,45,46]) kr kr Rk_nil (NS_b 3 kr (NS_nil ?_))
      refine W_cond true kr (fun _ => ?_) (fun e => by cases e)
      refine W_exit ?_
      repeat with_reducible refine then_exit ?_
      refine exit_here (W_region (L_i ((j : Int)) (1) (nv ((j + 1 : Nat) : Int)) rfl rfl kr kr rfl (inc_ok (by omega)) (L_g 1 kr (L_nil ?_))))
      exact ⟨l.length - (j + 1), by omega, j + 1, by omega, (fun x hx => (Nat.lt_succ_iff_lt_or_eq.1 hx).elim (hno x) (fun e => by rw [e]; exact hcnd)), rfl, kr, kr, kr, kr, kr, kr, kr, kr, kr, kr, kr, T335, c327, c331⟩
     ·
      rw [hrs] at c334
      refine W_drawn kr (D_e (e := 41) (l := [0,1,2,3,4,5,6,7,8,9,10,11,12,13,14,15,16,17,18,19,20,21,22,23,24,25,26,27,28,29,30,31,32,33,34,35,36,37,38,39,40,42]) (s' := [42]) kr kr rfl kr Rk_nil (NS_b 1 kr (NS_ld _ rfl rfl kr kr kr (c334.ld (o := 2) kr rfl) (NS_b 3 kr (NS_ix _ rfl rfl kr kr kr kr (ix_cl (b := h.next) (el := 3) kr kr hlj .i64) (NS_ld _ rfl rfl kr kr kr (c327.ld (o := j) kr (wv_n hlj hw)) (NS_i (-1) (0) (.bool false) rfl rfl kr kr kr kr rfl (by first | (simp; done) | (simp; omega)) (NS_b 3 kr (NS_ld _ rfl rfl kr kr kr (c334.ld (o := 0) kr rfl) (NS_v (nv (r.p : Int)) rfl kr rfl kr (ev_conv (o := _) rfl kr (conv8 (hro.p))) (NS_b 1 kr ?_)))))))))))
      refine NS_v (nv ((r.p % n : Nat) : Int)) rfl kr rfl kr (ev_bin (o := _) rfl kr kr (rem_n hn)) (NS_b 1 kr (NS_ld _ rfl rfl kr kr kr (c331.ld (o := 1) kr rfl) (NS_v (nv (m.q : Int)) rfl kr rfl kr (ev_conv (o := _) rfl kr (conv8 (hmo.q))) (NS_b 1 kr (NS_v (nv ((m.q % n : Nat) : Int)) rfl kr rfl kr (ev_bin (o := _) rfl kr kr (rem_n hn)) (NS_i (((r.p % n : Nat) : Int)) (((m.q % n : Nat) : Int)) (.bool false) rfl rfl kr kr kr kr rfl (by simp; omega) (NS_b 3 kr (NS_ld _ rfl rfl kr kr kr (c334.ld (o := 1) kr rfl) (NS_v (nv (r.q : Int)) rfl kr rfl kr (ev_conv (o := _) rfl kr (conv8 (hro.q))) (NS_b 1 kr (NS_v (nv ((r.q % n : Nat) : Int)) rfl kr rfl kr (ev_bin (o := _) rfl kr kr (rem_n hn)) ?_)))))))))))
      refine NS_b 1 kr (NS_ld _ rfl rfl kr kr kr (c331.ld (o := 0) kr rfl) (NS_v (nv (m.p : Int)) rfl kr rfl kr (ev_conv (o := _) rfl kr (conv8 (hmo.p))) (NS_b 1 kr (NS_v (nv ((m.p % n : Nat) : Int)) rfl kr rfl kr (ev_bin (o := _) rfl kr kr (rem_n hn)) (NS_i (((r.q % n : Nat) : Int)) (((m.p % n : Nat) : Int)) (.bool true) rfl rfl kr kr kr kr rfl (by simp; omega) (NS_b 8 kr (NS_nil (L_not kr kr ?_))))))))
      refine L_nil ⟨rfl, ?_⟩
      refine D_e (e := 43) (l := []) (s' := []) kr kr rfl kr (Rk_nw rfl kr Rk_nil) (NS_nil (L_not kr kr ?_))
      refine L_nil ⟨rfl, ?_⟩
      refine D_l (l := [44,45,46]) kr kr Rk_nil (NS_b 3 kr (NS_nil ?_))
      refine W_cond true kr (fun _ => ?_) (fun e => by cases e)
      refine W_exit ?_
      repeat with_reducible refine then_exit ?_
      refine exit_here (W_region (L_i ((j : Int)) (1) (nv ((j + 1 : Nat) : Int)) rfl rfl kr kr rfl (inc_ok (by omega)) (L_g 1 kr (L_nil ?_))))
      exact ⟨l.length - (j + 1), by omega, j + 1, by omega, (fun x hx => (Nat.lt_succ_iff_lt_or_eq.1 hx).elim (hno x) (fun e => by rw [e]; exact hcnd)), rfl, kr, kr, kr, kr, kr, kr, kr, kr, kr, kr, kr, T335, c327, c331⟩
     ·
      rw [hrs] at c334
      refine W_drawn kr (D_e (e := 41) (l := [0,1,2,3,4,5,6,7,8,9,10,11,12,13,14,15,16,17,18,19,20,21,22,23,24,25,26,27,28,29,30,31,32,33,34,35,36,37,38,39,40,42]) (s' := [42]) kr kr rfl kr Rk_nil (NS_b 1 kr (NS_ld _ rfl rfl kr kr kr (c334.ld (o := 2) kr rfl) (NS_b 3 kr (NS_ix _ rfl rfl kr kr kr kr (ix_cl (b := h.next) (el := 3) kr kr hlj .i64) (NS_ld _ rfl rfl kr kr kr (c327.ld (o := j) kr (wv_n hlj hw)) (NS_i (-1) (0) (.bool false) rfl rfl kr kr kr kr rfl (by first | (simp; done) | (simp; omega)) (NS_b 3 kr (NS_ld _ rfl rfl kr kr kr (c334.ld (o := 0) kr rfl) (NS_v (nv (r.p : Int)) rfl kr rfl kr (ev_conv (o := _) rfl kr (conv8 (hro.p))) (NS_b 1 kr ?_)))))))))))
      refine NS_v (nv ((r.p % n : Nat) : Int)) rfl kr rfl kr (ev_bin (o := _) rfl kr kr (rem_n hn)) (NS_b 1 kr (NS_ld _ rfl rfl kr kr kr (c331.ld (o := 1) kr rfl) (NS_v (nv (m.q : Int)) rfl kr rfl kr (ev_conv (o := _) rfl kr (conv8 (hmo.q))) (NS_b 1 kr (NS_v (nv ((m.q % n : Nat) : Int)) rfl kr rfl kr (ev_bin (o := _) rfl kr kr (rem_n hn)) (NS_i (((r.p % n : Nat) : Int)) (((m.q % n : Nat) : Int)) (.bool false) rfl rfl kr kr kr kr rfl (by simp; omega) (NS_b 3 kr (NS_ld _ rfl rfl kr kr kr (c334.ld (o := 1) kr rfl) (NS_v (nv (r.q : Int)) rfl kr rfl kr (ev_conv (o := _) rfl kr (conv8 (hro.q))) (NS_b 1 kr (NS_v (nv ((r.q % n : Nat) : Int)) rfl kr rfl kr (ev_bin (o := _) rfl kr kr (rem_n hn)) ?_)))))))))))
      refine NS_b 1 kr (NS_ld _ rfl rfl kr kr kr (c331.ld (o := 0) kr rfl) (NS_v (nv (m.p : Int)) rfl kr rfl kr (ev_conv (o := _) rfl kr (conv8 (hmo.p))) (NS_b 1 kr (NS_v (nv ((m.p % n : Nat) : Int)) rfl kr rfl kr (ev_bin (o := _) rfl kr kr (rem_n hn)) (NS_i (((r.q % n : Nat) : Int)) (((m.p % n : Nat) : Int)) (.bool false) rfl rfl kr kr kr kr rfl (by simp; omega) (NS_b 3 kr (NS_ld _ rfl rfl kr kr kr (c334.ld (o := 3) kr rfl) (NS_v (.bool false) rfl kr rfl kr (ev_bin (o := _) rfl kr kr (cmp8 (decide_eq_false ht))) (NS_b 3 kr (NS_nil (L_not kr kr ?_)))))))))))
      refine L_nil ⟨rfl, ?_⟩
      refine D_e (e := 43) (l := []) (s' := []) kr kr rfl kr (Rk_nw rfl kr Rk_nil) (NS_nil (L_not kr kr ?_))
      refine L_nil ⟨rfl, ?_⟩
      refine D_l (l := [44,45,46]) kr kr Rk_nil (NS_b 3 kr (NS_nil ?_))
      refine W_cond false kr (fun e => by cases e) (fun _ => ?_)
      refine W_skip (W_sg 3 kr (L_ix _ rfl rfl kr kr (ix_cl (b := h.next) (el := 3) kr kr hlj .i64) ?_))
      obtain ⟨h336, e336, d336, t336, n336⟩ := c327.store (P := Try.prog) (T := 3) (o := j) (v := nv (i : Int)) kr rfl rfl (by rw [rg_len]; exact hlj)
      rw [rg_set] at d336
      replace c327 := d336
      have T336 := T335.tr t336
      have N336 := T336.nx
      refine L_st _ rfl rfl rfl kr kr (e336) (L_nil (W_exit ?_))
      repeat with_reducible refine then_exit ?_
      refine exit_out rfl ?_
      repeat with_reducible refine then_exit ?_
      refine exit_here (W_region (L_i ((i : Int)) (1) (nv ((i + 1 : Nat) : Int)) rfl rfl kr kr rfl (inc_ok (by omega)) (L_g 1 kr (L_nil ?_))))
      have e8 : wa (spS n l) l.length (i + 1) = ups (wa (spS n l) l.length i) j (some i) := by rw [wa_send (by rw [spS_send hm]; exact hms), find_at hlj hno hcnd]
      rw [wv_ups, ← e8] at c327
      exact ⟨l.length - (i + 1), by omega, i + 1, by omega, rfl, kr, kr, kr, kr, kr, kr, T336, c327⟩
     ·
      rw [hrs] at c334
      refine W_drawn kr (D_e (e := 41) (l := [0,1,2,3,4,5,6,7,8,9,10,11,12,13,14,15,16,17,18,19,20,21,22,23,24,25,26,27,28,29,30,31,32,33,34,35,36,37,38,39,40,42]) (s' := [42]) kr kr rfl kr Rk_nil (NS_b 1 kr (NS_ld _ rfl rfl kr kr kr (c334.ld (o := 2) kr rfl) (NS_b 3 kr (NS_ix _ rfl rfl kr kr kr kr (ix_cl (b := h.next) (el := 3) kr kr hlj .i64) (NS_ld _ rfl rfl kr kr kr (c327.ld (o := j) kr (wv_n hlj hw)) (NS_i (-1) (0) (.bool false) rfl rfl kr kr kr kr rfl (by first | (simp; done) | (simp; omega)) (NS_b 3 kr (NS_ld _ rfl rfl kr kr kr (c334.ld (o := 0) kr rfl) (NS_v (nv (r.p : Int)) rfl kr rfl kr (ev_conv (o := _) rfl kr (conv8 (hro.p))) (NS_b 1 kr ?_)))))))))))
      refine NS_v (nv ((r.p % n : Nat) : Int)) rfl kr rfl kr (ev_bin (o := _) rfl kr kr (rem_n hn)) (NS_b 1 kr (NS_ld _ rfl rfl kr kr kr (c331.ld (o := 1) kr rfl) (NS_v (nv (m.q : Int)) rfl kr rfl kr (ev_conv (o := _) rfl kr (conv8 (hmo.q))) (NS_b 1 kr (NS_v (nv ((m.q % n : Nat) : Int)) rfl kr rfl kr (ev_bin (o := _) rfl kr kr (rem_n hn)) (NS_i (((r.p % n : Nat) : Int)) (((m.q % n : Nat) : Int)) (.bool false) rfl rfl kr kr kr kr rfl (by simp; omega) (NS_b 3 kr (NS_ld _ rfl rfl kr kr kr (c334.ld (o := 1) kr rfl) (NS_v (nv (r.q : Int)) rfl kr rfl kr (ev_conv (o := _) rfl kr (conv8 (hro.q))) (NS_b 1 kr (NS_v (nv ((r.q % n : Nat) : Int)) rfl kr rfl kr (ev_bin (o := _) rfl kr kr (rem_n hn)) ?_)))))))))))
      refine NS_b 1 kr (NS_ld _ rfl rfl kr kr kr (c331.ld (o := 0) kr rfl) (NS_v (nv (m.p : Int)) rfl kr rfl kr (ev_conv (o := _) rfl kr (conv8 (hmo.p))) (NS_b 1 kr (NS_v (nv ((m.p % n : Nat) : Int)) rfl kr rfl kr (ev_bin (o := _) rfl kr kr (rem_n hn)) (NS_i (((r.q % n : Nat) : Int)) (((m.p % n : Nat) : Int)) (.bool false) rfl rfl kr kr kr kr rfl (by simp; omega) (NS_b 3 kr (NS_ld _ rfl rfl kr kr kr (c334.ld (o := 3) kr rfl) (NS_v (.bool true) rfl kr rfl kr (ev_bin (o := _) rfl kr kr (cmp8 (decide_eq_true ht))) (NS_b 1 kr (NS_ld _ rfl rfl kr kr kr (Cl.allN (n := 6) c334 rfl kr) (NS_ld _ rfl rfl kr kr kr (Cl.allN (n := 6) c331 rfl kr) ?_)))))))))))
      refine NS_nil (L_want kr (L_c rfl rfl kr (tagOf_ok (m := { r with snd := false }) ⟨hro.p, hro.q, hro.t0, hro.t1, hro.s⟩) ?_))
      rintro v337 h337 ⟨e337, t337⟩
      try dsimp only at e337
      try dsimp only at t337
      subst e337
      replace c327 := c327.ext t337
      replace c331 := c331.ext t337
      have T337 := T335.ext t337
      have N337 := T337.nx
      have M337 := t337.nx
      refine L_nil ⟨rfl, ?_⟩
      refine D_e (e := 43) (l := []) (s' := []) kr kr rfl kr (Rk_ld _ rfl rfl rfl kr (Cl.allN (n := 6) c331 rfl kr) kr Rk_nil) (NS_nil (L_want kr (L_c rfl rfl kr (tagOf_ok hmo) ?_)))
      rintro v338 h338 ⟨e338, t338⟩
      try dsimp only at e338
      try dsimp only at t338
      subst e338
      replace c327 := c327.ext t338
      have T338 := T337.ext t338
      have N338 := T338.nx
      have M338 := t338.nx
      refine L_nil ⟨rfl, ?_⟩
      refine D_l (l := [44,45,46]) kr kr Rk_nil (NS_i ((tgO r)) ((tgO m)) (.bool false) rfl rfl kr kr kr kr rfl (by simp [hq]) (NS_b 2 kr (NS_nil ?_)))
      refine W_cond false kr (fun e => by cases e) (fun _ => ?_)
      refine W_skip (W_sg 3 kr (L_ix _ rfl rfl kr kr (ix_cl (b := h.next) (el := 3) kr kr hlj .i64) ?_))
      obtain ⟨h339, e339, d339, t339, n339⟩ := c327.store (P := Try.prog) (T := 3) (o := j) (v := nv (i : Int)) kr rfl rfl (by rw [rg_len]; exact hlj)
      rw [rg_set] at d339
      replace c327 := d339
      have T339 := T338.tr t339
      have N339 := T339.nx
      refine L_st _ rfl rfl rfl kr kr (e339) (L_nil (W_exit ?_))
      repeat with_reducible refine then_exit ?_
      refine exit_out rfl ?_
      repeat with_reducible refine then_exit ?_
      refine exit_here (W_region (L_i ((i : Int)) (1) (nv ((i + 1 : Nat) : Int)) rfl rfl kr kr rfl (inc_ok (by omega)) (L_g 1 kr (L_nil ?_))))
      have e8 : wa (spS n l) l.length (i + 1) = ups (wa (spS n l) l.length i) j (some i) := by rw [wa_send (by rw [spS_send hm]; exact hms), find_at hlj hno hcnd]
      rw [wv_ups, ← e8] at c327
      exact ⟨l.length - (i + 1), by omega, i + 1, by omega, rfl, kr, kr, kr, kr, kr, kr, T339, c327⟩
     ·
      rw [hrs] at c334
      refine W_drawn kr (D_e (e := 41) (l := [0,1,2,3,4,5,6,7,8,9,10,11,12,13,14,15,16,17,18,19,20,21,22,23,24,25,26,27,28,29,30,31,32,33,34,35,36,37,38,39,40,42]) (s' := [42]) kr kr rfl kr Rk_nil (NS_b 1 kr (NS_ld _ rfl rfl kr kr kr (c334.ld (o := 2) kr rfl) (NS_b 3 kr (NS_ix _ rfl rfl kr kr kr kr (ix_cl (b := h.next) (el := 3) kr kr hlj .i64) (NS_ld _ rfl rfl kr kr kr (c327.ld (o := j) kr (wv_n hlj hw)) (NS_i (-1) (0) (.bool false) rfl rfl kr kr kr kr rfl (by first | (simp; done) | (simp; omega)) (NS_b 3 kr (NS_ld _ rfl rfl kr kr kr (c334.ld (o := 0) kr rfl) (NS_v (nv (r.p : Int)) rfl kr rfl kr (ev_conv (o := _) rfl kr (conv8 (hro.p))) (NS_b 1 kr ?_)))))))))))
      refine NS_v (nv ((r.p % n : Nat) : Int)) rfl kr rfl kr (ev_bin (o := _) rfl kr kr (rem_n hn)) (NS_b 1 kr (NS_ld _ rfl rfl kr kr kr (c331.ld (o := 1) kr rfl) (NS_v (nv (m.q : Int)) rfl kr rfl kr (ev_conv (o := _) rfl kr (conv8 (hmo.q))) (NS_b 1 kr (NS_v (nv ((m.q % n : Nat) : Int)) rfl kr rfl kr (ev_bin (o := _) rfl kr kr (rem_n hn)) (NS_i (((r.p % n : Nat) : Int)) (((m.q % n : Nat) : Int)) (.bool false) rfl rfl kr kr kr kr rfl (by simp; omega) (NS_b 3 kr (NS_ld _ rfl rfl kr kr kr (c334.ld (o := 1) kr rfl) (NS_v (nv (r.q : Int)) rfl kr rfl kr (ev_conv (o := _) rfl kr (conv8 (hro.q))) (NS_b 1 kr (NS_v (nv ((r.q % n : Nat) : Int)) rfl kr rfl kr (ev_bin (o := _) rfl kr kr (rem_n hn)) ?_)))))))))))
      refine NS_b 1 kr (NS_ld _ rfl rfl kr kr kr (c331.ld (o := 0) kr rfl) (NS_v (nv (m.p : Int)) rfl kr rfl kr (ev_conv (o := _) rfl kr (conv8 (hmo.p))) (NS_b 1 kr (NS_v (nv ((m.p % n : Nat) : Int)) rfl kr rfl kr (ev_bin (o := _) rfl kr kr (rem_n hn)) (NS_i (((r.q % n : Nat) : Int)) (((m.p % n : Nat) : Int)) (.bool false) rfl rfl kr kr kr kr rfl (by simp; omega) (NS_b 3 kr (NS_ld _ rfl rfl kr kr kr (c334.ld (o := 3) kr rfl) (NS_v (.bool true) rfl kr rfl kr (ev_bin (o := _) rfl kr kr (cmp8 (decide_eq_true ht))) (NS_b 1 kr (NS_ld _ rfl rfl kr kr kr (Cl.allN (n := 6) c334 rfl kr) (NS_ld _ rfl rfl kr kr kr (Cl.allN (n := 6) c331 rfl kr) ?_)))))))))))
      refine NS_nil (L_want kr (L_c rfl rfl kr (tagOf_ok (m := { r with snd := false }) ⟨hro.p, hro.q, hro.t0, hro.t1, hro.s⟩) ?_))
      rintro v340 h340 ⟨e340, t340⟩
      try dsimp only at e340
      try dsimp only at t340
      subst e340
      replace c327 := c327.ext t340
      replace c331 := c331.ext t340
      have T340 := T335.ext t340
      have N340 := T340.nx
      have M340 := t340.nx
      refine L_nil ⟨rfl, ?_⟩
      refine D_e (e := 43) (l := []) (s' := []) kr kr rfl kr (Rk_ld _ rfl rfl rfl kr (Cl.allN (n := 6) c331 rfl kr) kr Rk_nil) (NS_nil (L_want kr (L_c rfl rfl kr (tagOf_ok hmo) ?_)))
      rintro v341 h341 ⟨e341, t341⟩
      try dsimp only at e341
      try dsimp only at t341
      subst e341
      replace c327 := c327.ext t341
      replace c331 := c331.ext t341
      have T341 := T340.ext t341
      have N341 := T341.nx
      have M341 := t341.nx
      refine L_nil ⟨rfl, ?_⟩
      refine D_l (l := [44,45,46]) kr kr Rk_nil (NS_i ((tgO r)) ((tgO m)) (.bool true) rfl rfl kr kr kr kr rfl (by simpa using hq) (NS_b 2 kr (NS_nil ?_)))
      refine W_cond true kr (fun _ => ?_) (fun e => by cases e)
      refine W_exit ?_
      repeat with_reducible refine then_exit ?_
      refine exit_here (W_region (L_i ((j : Int)) (1) (nv ((j + 1 : Nat) : Int)) rfl rfl kr kr rfl (inc_ok (by omega)) (L_g 1 kr (L_nil ?_))))
      exact ⟨l.length - (j + 1), by omega, j + 1, by omega, (fun x hx => (Nat.lt_succ_iff_lt_or_eq.1 hx).elim (hno x) (fun e => by rw [e]; exact hcnd)), rfl, kr, kr, kr, kr, kr, kr, kr, kr, kr, kr, kr, T341, c327, c331⟩
    ·
     have hgj : j = l.length := by simp at hb; omega
     refine W_exit ?_
     repeat with_reducible refine then_exit ?_
     refine exit_here (W_region (L_i ((i : Int)) (1) (nv ((i + 1 : Nat) : Int)) rfl rfl kr kr rfl (inc_ok (by omega)) (L_g 1 kr (L_nil ?_))))
     have e8 : wa (spS n l) l.length (i + 1) = wa (spS n l) l.length i := by rw [wa_send (by rw [spS_send hm]; exact hms), find_no (fun x hx => hno x (by omega))]
     rw [← e8] at c327
     exact ⟨l.length - (i + 1), by omega, i + 1, by omega, rfl, kr, kr, kr, kr, kr, kr, T333, c327⟩
  ·
   have hge : i = l.length := by simp at hb; omega
   subst hge
   refine W_exit ?_
   repeat with_reducible refine then_exit ?_
   refine exit_here (W_sg 2 kr (L_nil (W_ret ?_)))
   repeat first | with_reducible refine then_ret ?_ | with_reducible refine blk_ret ?_
   refine done_of (v := .slice (some ⟨h.next, 0, none⟩) l.length l.length) (.inl rfl) kr ?_
   exact ⟨_, rfl, c327, Nat.le_refl _, T330⟩
end
end Go.Proofs.Ytmehemeoaplepaa
namespace Go.Proofs.Ytmehemeoaplepaa
noncomputable section
open Go Go.X Go.Arm Go.Mt
section
variable {h0 h h' : AH} {W W' : Wd} {G G' : Gh} {V : Nat → Value} {T : Nat → Tx} {b : Nat}
structure Ap (h0 : AH) (G : Gh) (V : Nat → Value) (T : Nat → Tx) (b : Nat) : Prop where
 lo : h0.next ≤ b
 mu : ¬ G.mut b
 ro : ¬ G.ro b
 th : ∀ k, T k ≠ .no → vbx (V k) ≠ some b
theorem Ap.new (H : Wx h0 W G V T h) : Ap h0 G V T h.next := ⟨H.O.sm.nx, H.R.op.new (Nat.le_refl _), H.R.op.newr (Nat.le_refl _), fun _k hx hb => Nat.lt_irrefl _ (H.lt hx hb)⟩
theorem Ap.go (A : Ap h0 G V T b) (Y : Gx G h G' h') (hb : b < h.next) : Ap h0 G' V T b := ⟨A.lo, fun e => (Y.mu b e).elim A.mu fun e2 => by omega, fun e => (Y.ron b e).elim A.ro fun e2 => by omega, A.th⟩
theorem Wx.sm (H : Wx h0 W G V T h) (A : Ap h0 G V T b) (t : Sm (fun c => c = b) h h') : Wx h0 W G V T h' :=
 ⟨H.R.sm t fun c hc => by subst hc; exact ⟨A.mu, A.ro⟩, ⟨H.O.sm.then (t.mono fun c hc => by subst hc; exact A.lo), H.O.mu⟩, fun k => by
  by_cases e : T k = .no
  · rw [e]; trivial
  · exact (H.at_ k).sm t fun c hc hs => A.th k e (by rw [hc, hs]), H.own, H.dj⟩
end
theorem Cl.sd3 {h : AH} {b n k : Nat} {cs : List Value} (hc : Cl h b cs) (hn : cs.length = n * k) : Sd h k (.slice (some ⟨b, 0, none⟩) n n) n cs := by
 refine ⟨hn, ?_⟩
 obtain ⟨h1, c, op, h2, h3⟩ := hc
 by_cases h0 : n = 0
 · exact .inl ⟨h0, some ⟨b, 0, none⟩, n, by rw [h0], (fun e => by cases e), (fun q hq => by cases hq; exact h1)⟩
 · exact .inr ⟨b, 0, n, c, cs.length, op, false, by omega, h0, rfl, h1, h2, by omega, fun j hj => by rw [Nat.zero_add]; exact h3 j hj⟩
def od (sp : Nat → Mv) (no : Nat → Nat) (k : Nat) : List Value := (List.range k).flatMap fun i => [nk (sp i).p, nk (no i), .string ⟨⟨(sp i).d⟩⟩]
theorem od_succ {sp : Nat → Mv} {no : Nat → Nat} {k N : Nat} : od sp no k ++ [nk (sp k).p, nk N, .string ⟨⟨(sp k).d⟩⟩] = od sp (ups no k N) (k + 1) := by
 unfold od
 rw [List.range_succ, List.flatMap_append]
 congr 1
 · show ((List.range k).map _).flatten = ((List.range k).map _).flatten
   refine congrArg List.flatten (List.map_congr_left fun i hi => ?_)
   rw [ups_ne _ _ (Nat.ne_of_lt (List.mem_range.1 hi))]
 · show _ = [nk (sp k).p, nk (ups no k N k), Value.string ⟨⟨(sp k).d⟩⟩] ++ []
   rw [ups_at, List.append_nil]
theorem mul7 {h : AH} {xo yo : Operand} {x : Nat} (hx : x < 1000) : aBin Try.prog .mul 3 xo yo (nv (x : Int)) (nv 7) h = some (nv ((x * 7 : Nat) : Int)) := by
 have e : aBin Try.prog .mul 3 xo yo (nv (x : Int)) (nv 7) h = some (.int .i64 (IntKind.i64.wrap ((x : Int) * 7))) := by kernel_rfl
 have e2 : IntKind.i64.wrap ((x : Int) * 7) = ((x * 7 : Nat) : Int) := by rw [IntKind.wrap_i64]; omega
 rw [e, e2]; rfl
theorem rem_d {h : AH} {xo yo : Operand} {x d : Nat} (hd : 0 < d) : aBin Try.prog .rem 3 xo yo (nv (x : Int)) (nv (d : Int)) h = some (nv ((x % d : Nat) : Int)) := by
 obtain ⟨k, rfl⟩ : ∃ k, d = k + 1 := ⟨d - 1, by omega⟩
 have e : aBin Try.prog .rem 3 xo yo (nv (x : Int)) (nv ((k + 1 : Nat) : Int)) h = some (nv (Int.tmod (x : Int) ((k + 1 : Nat) : Int))) := by kernel_rfl
 rw [e, Int.tmod_eq_emod_of_nonneg (by omega), Int.natCast_emod]
theorem lss8 {h : AH} {xo yo : Operand} {x : Int} {b : Bool} (hb : decide (x < 0) = b) : aBin Try.prog .lss 30 xo yo (.int .i8 x) (.int .i8 0) h = some (.bool b) := by
 have e : aBin Try.prog .lss 30 xo yo (.int .i8 x) (.int .i8 0) h = some (.bool (decide (x < 0))) := by kernel_rfl
 rw [e, hb]
theorem bv_n {x : Nat} (hx : x < 256) : bv (UInt8.ofNat x) = .int .u8 (x : Int) := by
 unfold bv
 rw [UInt8.toNat_ofNat', Nat.mod_eq_of_lt (by omega)]
theorem dS_cells0 {i sz : Nat} {f : Nat → Value} (h : sz = 0) : rg f sz = (dS i sz).map bv := by subst h; rfl
theorem dS_cells1 {i sz : Nat} (h : 0 < sz) (hi : i < 100) : rg (ups (fun j => if j < sz then Value.int .u8 ((i + 1 : Nat) : Int) else .int .u8 0) 0 (.int .u8 ((100 + i : Nat) : Int))) sz = (dS i sz).map bv := by
 obtain ⟨k, rfl⟩ : ∃ k, sz = k + 1 := ⟨sz - 1, by omega⟩
 refine List.ext_getElem? fun j => ?_
 by_cases hj : j < k + 1
 · rw [rg_at hj, List.getElem?_map]
   cases j with
   | zero => rw [ups_at]; show _ = some (bv (UInt8.ofNat (100 + i))); rw [bv_n (by omega)]
   | succ j =>
    rw [ups_ne _ _ (by omega), if_pos hj]
    show _ = ((List.replicate k (UInt8.ofNat (i + 1)))[j]?).map bv
    rw [List.getElem?_replicate, if_pos (by omega)]
    show _ = some (bv (UInt8.ofNat (i + 1)))
    rw [bv_n (by omega)]
 · rw [List.getElem?_eq_none (by rw [rg_len]; omega), List.getElem?_eq_none (by rw [List.length_map, dS_len]; omega)]
theorem settle_n {W : Wd} {G : Gh} {h : AH} {k n : Nat} {W' : Wd} (R : Rep W G h) (hn : W.n = n) (hn5 : n < 5) (hk : k < 2000) (hs : Wd.Settles k W W') :
  Arm.Calls Try.prog 14 [ptr (G.B .wd), nv (n : Int)] h (fun r => r.1 = .bool true ∧ Nxt W' G h r.2) := by
 have := settle_ok R (by rw [hn]; omega) hk hs
 rw [hn] at this
 exact this
end
end Go.Proofs.Ytmehemeoaplepaa
namespace Go.Proofs.Ytmehemeoaplepaa
noncomputable section
open Go Go.X Go.Arm Go.Mt
set_option maxHeartbeats 2000000 in
theorem played_ok {h : AH} {n E c : Nat} {sv ov : Value} {l : List Mo} {os : By} (hn : 0 < n ∧ n < 5) (hE : E < 14) (hc : c < 5) (hl : ∀ m, m ∈ l → m.ok) (hlen : l.length ≤ 24) (hol : os.length ≤ 40) (Hl : Sd h 6 sv l.length (l.flatMap mo6)) (Ho : Sd h 1 ov os.length (os.map bv)) :
  Arm.Calls Try.prog 16 [nv (n : Int), nv (E : Int), nv (c : Int), sv, ov] h (fun r => ∃ Γ W G no vo, r.1 = .tuple ⟨[ptr (G.B .wd), vo, .bool true]⟩ ∧ Pl (⟨n, (E : Int), 11, (c : Int)⟩ : Mt.Ct) (spS n l) no l.length Γ W ∧ Gq Γ ∧ W4 h W G vo (.gr 3 l.length (od (spS n l) no l.length)) (nv 0) .no (nv 0) .no (nv 0) .no r.2) := by
 have hcg : Cg (⟨n, (E : Int), 11, (c : Int)⟩ : Mt.Ct) := ⟨by show n < 9; omega, by show (0 : Int) ≤ 11; decide, by show (11 : Int) < 100; decide, by show (0 : Int) ≤ c; omega, by show (c : Int) ≤ 64; omega⟩
 refine Calls_W 163 Try.f16 ?_
 have T0 : Sm Nix h h := .refl
 refine W_sg 3 kr (L_nil (W_sg 3 kr (L_c rfl rfl kr (new_ok (n := n) (e := (E : Int)) (c := (c : Int)) (by omega) (by omega) (by omega) (by omega) (by omega)) ?_)))
 rintro v342 h342 ⟨G0, e342, R342, Z342, t342⟩
 dsimp only at e342 R342 Z342 t342
 subst e342
 have O342 : Old h G0 h342 := ⟨t342.mono (fun _ x => x.elim), fun b hb => Z342 b (.inl hb)⟩
 have w342 : W4 h (Wd.new n (E : Int) (c : Int)) G0 (.slice none 0 0) (.gr 3 0 []) (nv 0) .no (nv 0) .no (nv 0) .no h342 := (W4.nil R342 O342 (v0 := (.slice none 0 0))).up0 (x := .gr 3 0 []) Gr.nil .refl (fun b hb => by cases hb)
 have T342 : Sm Nix h342 h342 := .refl
 refine L_g 5 kr (L_nil (W_seq (W_sg 2 kr (L_nil ?_))))
 refine W_cond false kr (fun e => by cases e) (fun _ => ?_)
 refine W_skip (W_sg 1 kr (L_nil (W_seq (W_sg 1 kr (L_ln _ rfl rfl kr (Sd.len (P := Try.prog) (T := 22) (el := 32) kr ((((w342).ext T342).O).sd Hl)) (L_g 1 kr (L_nil ?_)))))))
 refine W_block ?_
 refine W_loop (fun mm fr hh => ∃ (i : Nat) (no : Nat → Nat) (W6 : Wd) (G6 : Gh) (vo : Value), mm = l.length - i ∧ (i ≤ l.length) ∧ (Pn (⟨n, (E : Int), 11, (c : Int)⟩ : Mt.Ct) (spS n l) no i W6) ∧ (W4 h W6 G6 vo (.gr 3 i (od (spS n l) no i)) (nv 0) .no (nv 0) .no (nv 0) .no hh) ∧ fr 0 = nv (n : Int) ∧ fr 3 = sv ∧ fr 4 = ov ∧ fr 13 = ptr (G6.B .wd) ∧ fr 15 = vo ∧ fr 35 = sv ∧ fr 36 = nv (l.length : Int) ∧ fr 37 = nv (i : Int)) (l.length) ?_ ?_
 ·
  exact ⟨0, fun _ => 0, _, G0, (.slice none 0 0), rfl, Nat.zero_le _, Pn.born (by omega), ((w342).ext T342), kr, kr, kr, kr, kr, kr, kr, kr⟩
 rintro mm fr hh6 ⟨i, no, W6, G6, vo, hm6, hi, P6, w6, y60, y63, y64, y613, y615, y635, y636, y637⟩
 refine W_set (k := 0) y60 (W_set (k := 3) y63 (W_set (k := 4) y64 (W_set (k := 13) y613 (W_set (k := 15) y615 (W_set (k := 35) y635 (W_set (k := 36) y636 (W_set (k := 37) y637 ?_)))))))
 have T6 : Sm Nix hh6 hh6 := .refl
 refine W_seq (W_region (L_i ((i : Int)) ((l.length : Int)) (.bool (decide ((i : Int) < (l.length : Int)))) rfl rfl kr kr rfl (rfl) (L_nil (W_seq ?_))))
 refine W_cond (decide ((i : Int) < (l.length : Int))) kr (fun hb => ?_) (fun hb => ?_)
 ·
  have hlt : i < l.length := by simp at hb; omega
  obtain ⟨m, hm⟩ : ∃ m, l[i]? = some m := ⟨_, List.getElem?_eq_getElem hlt⟩
  have hmo := hl m (List.mem_of_getElem? hm)
  obtain ⟨b9, o9, i9, l9, -, -⟩ := el_mo (w6.O.sd Hl) hm
  have hpn : (m.p % n) < n := Nat.mod_lt _ hn.1
  have hqn : (m.q % n) < n := Nat.mod_lt _ hn.1
  refine W_skip (W_seq (W_block (W_sg 1 kr (L_ix _ rfl rfl kr kr (i9) (L_ld _ rfl rfl kr (l9) (L_nwc [.int .u8 0, .int .u8 0, .bool false, .int .i8 0, .int .u8 0, .bool false] .ptr rfl rfl kr fun h343 c343 t343 n343 => ?_))))))
  have T343 := T6.ext t343
  have N343 := T343.nx
  refine L_g 1 kr ?_
  obtain ⟨h344, e344, d344, t344, n344⟩ := c343.sA 32 [.int .u8 (m.p : Int), .int .u8 (m.q : Int), .bool m.snd, .int .i8 m.tag, .int .u8 (m.size : Int), .bool m.sync]
  replace c343 := d344
  have T344 := T343.tr t344
  have N344 := T344.nx
  refine L_st _ rfl rfl rfl kr kr (e344) (L_nil (W_seq (W_drawn kr (D_l (l := [0,1,2,3,4,5,6,7,8,9,10,11]) kr kr Rk_nil (NS_b 1 kr (NS_ld _ rfl rfl kr kr kr (c343.ld (o := 0) kr rfl) (NS_v (nv (m.p : Int)) rfl kr rfl kr (ev_conv (o := _) rfl kr (conv8 (hmo.p))) (NS_b 1 kr (NS_v (nv ((m.p % n : Nat) : Int)) rfl kr rfl kr (ev_bin (o := _) rfl kr kr (rem_n hn)) (NS_b 1 kr (NS_ld _ rfl rfl kr kr kr (c343.ld (o := 1) kr rfl) ?_)))))))))))
  refine NS_v (nv (m.q : Int)) rfl kr rfl kr (ev_conv (o := _) rfl kr (conv8 (hmo.q))) (NS_b 1 kr (NS_v (nv ((m.q % n : Nat) : Int)) rfl kr rfl kr (ev_bin (o := _) rfl kr kr (rem_n hn)) (NS_b 2 kr (NS_nil (W_sg 2 kr (L_nwc [nv 0, nv 0, .string ⟨#[]⟩] .ptr rfl rfl kr fun h345 c345 t345 n345 => ?_))))))
  replace c343 := c343.ext t345
  have T345 := T344.ext t345
  have N345 := T345.nx
  have a20 := Ap.new ((w6).ext T344)
  obtain ⟨h346, e346, d346, t346, n346⟩ := c345.sA 55 [nv (((m.p % n) : Nat) : Int), nv 0, .string ⟨#[]⟩]
  replace c343 := c343.sn t346
  replace c345 := d346
  have T346 := T345.tr t346
  have N346 := T346.nx
  refine L_st _ rfl rfl rfl kr kr (e346) (L_nil ?_)
  refine W_seq_cut (fun fr hh => ∃ (N bz : Nat) (W3 : Wd) (G3 : Gh), Pn (⟨n, (E : Int), 11, (c : Int)⟩ : Mt.Ct) (spS n l) (ups no i N) (i + 1) W3 ∧ W4 h W3 G3 vo (.gr 3 i (od (spS n l) no i)) (nv 0) .no (nv 0) .no (nv 0) .no hh ∧ Cl hh bz [nv (((m.p % n) : Nat) : Int), nk N, (.string ⟨⟨(spS n l i).d⟩⟩)] ∧ fr 0 = nv (n : Int) ∧ fr 3 = sv ∧ fr 4 = ov ∧ fr 13 = ptr (G3.B .wd) ∧ fr 14 = nv 0 ∧ fr 15 = vo ∧ fr 16 = nv (i : Int) ∧ fr 20 = ptr bz ∧ fr 35 = sv ∧ fr 36 = nv (l.length : Int) ∧ fr 37 = nv (i : Int)) ?_ ?_
  ·
   refine W_sg 1 kr (L_ld _ rfl rfl kr (c343.ld (o := 2) kr rfl) (L_nil ?_))
   refine W_cond (m.snd) kr (fun hb => ?_) (fun hb => ?_)
   ·
    have hms : m.snd = true := hb
    obtain ⟨sz, hsz⟩ : ∃ sz, m.size % 12 = sz := ⟨_, rfl⟩
    have hsz12 : sz < 12 := by rw [← hsz]; exact Nat.mod_lt _ (by decide)
    obtain ⟨W1, zc, P1⟩ := P6.call hcg (by omega) (p := (m.p % n)) hpn
    obtain ⟨W2, W3, z1, z2, z3, PS⟩ := P1.send hcg (by omega) (p := (m.p % n)) (q := (m.q % n)) (tag := tgO m) (sync := m.sync) (d := dS i sz) (by rw [spS_send hm]; exact hms) (by rw [spS_s hm hms, hsz]) hpn hqn (by rw [dS_len]; show (sz : Int) ≤ 11; omega)
    refine W_sg 1 kr (L_ld _ rfl rfl kr (c343.ld (o := 4) kr rfl) (L_p (nv (m.size : Int)) rfl (ev_conv (o := _) rfl kr (conv8 (hmo.s))) (L_p (nv (sz : Int)) rfl (ev_bin (o := _) rfl kr kr (rem_lit (c := 12) (by decide) hsz kr)) (L_nwc (zrep sz [.int .u8 0]) (.sl sz sz) rfl rfl (ev_mkK (P := Try.prog) (k := 1) (el := 5) (z := .int .u8 0) (by_ := 1) kr kr kr kr rfl (by omega) kr kr) fun h347 c347 t347 n347 => ?_))))
    replace c343 := c343.ext t347
    replace c345 := c345.ext t347
    have T347 := T346.ext t347
    have N347 := T347.nx
    rw [rg_const] at c347
    have nm60 := (((w6).ext T346).R).op.new (Nat.le_refl _)
    refine L_g 1 kr (L_nil (W_seq (W_sg 1 kr (L_ln _ rfl rfl kr (Sd.len (P := Try.prog) (T := 23) (el := 5) kr (c347.sd (rg_len _ _))) (L_g 1 kr (L_nil (W_block ?_)))))))
    refine W_loop (fun mm fr hh => ∃ (k : Nat), (k ≤ sz) ∧ mm = sz - k ∧ fr 0 = nv (n : Int) ∧ fr 3 = sv ∧ fr 4 = ov ∧ fr 13 = ptr (G6.B .wd) ∧ fr 15 = vo ∧ fr 16 = nv (i : Int) ∧ fr 17 = ptr (hh6.next) ∧ fr 18 = nv ((m.p % n) : Int) ∧ fr 19 = nv ((m.q % n) : Int) ∧ fr 20 = ptr (h344.next) ∧ fr 21 = .slice (some ⟨h346.next, 0, none⟩) sz sz ∧ fr 35 = sv ∧ fr 36 = nv (l.length : Int) ∧ fr 37 = nv (i : Int) ∧ fr 62 = nv (sz : Int) ∧ fr 63 = nv (k : Int) ∧ Sm Nix hh6 hh ∧ Cl hh (hh6.next) [.int .u8 (m.p : Int), .int .u8 (m.q : Int), .bool m.snd, .int .i8 m.tag, .int .u8 (m.size : Int), .bool m.sync] ∧ Cl hh (h344.next) [nv (((m.p % n) : Nat) : Int), nv 0, .string ⟨#[]⟩] ∧ Cl hh (h346.next) (rg (fun j => if j < k then Value.int .u8 ((i + 1 : Nat) : Int) else .int .u8 0) sz)) (sz) ?_ ?_
    ·
     rw [rg_congr (g := fun j => if j < 0 then Value.int .u8 ((i + 1 : Nat) : Int) else .int .u8 0) (fun j _ => by rw [if_neg (by omega)])] at c347
     exact ⟨0, Nat.zero_le _, rfl, kr, kr, kr, kr, kr, kr, kr, kr, kr, kr, kr, kr, kr, kr, kr, kr, T347, c343, c345, c347⟩
    rintro mm348 fr348 h348 ⟨k, hk, hm348, y348_0, y348_3, y348_4, y348_13, y348_15, y348_16, y348_17, y348_18, y348_19, y348_20, y348_21, y348_35, y348_36, y348_37, y348_62, y348_63, T348, c343, c345, c347⟩
    have N348 := T348.nx
    have B348_t17 := c343.lt
    have B348_t20 := c345.lt
    have B348_t60 := c347.lt
    refine W_set (k := 0) y348_0 (W_set (k := 3) y348_3 (W_set (k := 4) y348_4 (W_set (k := 13) y348_13 (W_set (k := 15) y348_15 (W_set (k := 16) y348_16 (W_set (k := 17) y348_17 (W_set (k := 18) y348_18 (W_set (k := 19) y348_19 (W_set (k := 20) y348_20 (W_set (k := 21) y348_21 (W_set (k := 35) y348_35 ?_)))))))))))
    refine W_set (k := 36) y348_36 (W_set (k := 37) y348_37 (W_set (k := 62) y348_62 (W_set (k := 63) y348_63 (W_seq (W_region (L_i ((k : Int)) ((sz : Int)) (.bool (decide ((k : Int) < (sz : Int)))) rfl rfl kr kr rfl (rfl) (L_nil (W_seq ?_))))))))
    refine W_cond (decide ((k : Int) < (sz : Int))) kr (fun hb => ?_) (fun hb => ?_)
    ·
     have hks : k < sz := by simp at hb; omega
     refine W_skip (W_seq (W_block (W_sg 2 kr (L_nil (W_rg 3 kr (L_i ((i : Int)) (1) (nv ((i + 1 : Nat) : Int)) rfl rfl kr kr rfl (inc_ok (by omega)) (L_p (.int .u8 ((i + 1 : Nat) : Int)) rfl (ev_conv (o := _) rfl kr (convB (by omega))) (L_ix _ rfl rfl kr kr (ix_cl (b := h346.next) (el := 5) kr kr hks .i64) ?_))))))))
     obtain ⟨h349, e349, d349, t349, n349⟩ := c347.store (P := Try.prog) (T := 5) (o := k) (v := .int .u8 ((i + 1 : Nat) : Int)) kr rfl rfl (by rw [rg_len]; exact hks)
     rw [rg_set, fill_step] at d349
     replace c343 := c343.sn t349
     replace c345 := c345.sn t349
     replace c347 := d349
     have T349 := T348.tr t349
     have N349 := T349.nx
     refine L_st _ rfl rfl rfl kr kr (e349) (L_nil (W_region (L_i ((k : Int)) (1) (nv ((k + 1 : Nat) : Int)) rfl rfl kr kr rfl (inc_ok (by omega)) (L_g 1 kr (L_nil ?_)))))
     exact ⟨sz - (k + 1), by omega, k + 1, by omega, rfl, kr, kr, kr, kr, kr, kr, kr, kr, kr, kr, kr, kr, kr, kr, kr, kr, T349, c343, c345, c347⟩
    ·
     have hks : k = sz := by simp at hb; omega
     rw [hks] at c347
     refine W_exit ?_
     repeat with_reducible refine then_exit ?_
     refine exit_here (W_seq (W_seq ?_))
     rcases Nat.eq_zero_or_pos sz with h0 | h0
     ·
      refine W_rg 1 kr (L_ln _ rfl rfl kr (Sd.len (P := Try.prog) (T := 23) (el := 5) kr (c347.sd (rg_len _ _))) (L_i ((sz : Int)) (0) (.bool false) rfl rfl kr kr rfl (by simp; omega) (L_nil ?_)))
      refine W_cond false kr (fun e => by cases e) (fun _ => ?_)
      refine W_skip (W_seq (W_region (L_g 1 kr ?_)))
      rw [dS_cells0 (i := i) h0] at c347
      have hD : Rb h348 (.slice (some ⟨h346.next, 0, none⟩) sz sz) ((dS i sz).map bv) := (c347.sd (by rw [List.length_map, dS_len])).rb
      refine L_p (.string ⟨⟨dS i sz⟩⟩) rfl (ev_conv (o := _) rfl kr (str_ok hD)) (L_g 1 kr ?_)
      obtain ⟨h350, e350, d350, t350, n350⟩ := c345.s1 9 2 ((.string ⟨⟨dS i sz⟩⟩))
      replace d350 : Cl h350 (h344.next) [nv (((m.p % n) : Nat) : Int), nv 0, (.string ⟨⟨dS i sz⟩⟩)] := d350
      replace c343 := c343.sn t350
      replace c347 := c347.sn t350
      replace c345 := d350
      have T350 := T348.tr t350
      have N350 := T350.nx
      refine L_st _ rfl rfl rfl kr kr (e350) (L_nil (W_drawn kr (D_e (e := 4) (l := [0,1,2,3,5,6,7]) (s' := [0,1,2,5,6,7]) kr kr rfl kr Rk_nil (NS_b 3 kr (NS_ld _ rfl rfl kr kr kr (Cl.allN (n := 6) c343 rfl kr) (NS_b 2 kr (NS_ld _ rfl rfl kr kr kr (c343.ld (o := 5) kr rfl) (NS_nil (L_c rfl rfl kr (tagOf_ok hmo) ?_)))))))))
      rintro v351 h351 ⟨e351, t351⟩
      try dsimp only at e351
      try dsimp only at t351
      subst e351
      replace c343 := c343.ext t351
      replace c345 := c345.ext t351
      replace c347 := c347.ext t351
      have T351 := T350.ext t351
      have N351 := T351.nx
      have M351 := t351.nx
      refine L_nil ⟨rfl, ?_⟩
      refine D_e (e := 8) (l := []) (s' := []) kr kr rfl kr (Rk_1 rfl rfl (Rk_1 rfl rfl (Rk_1 rfl rfl (Rk_1 rfl rfl (Rk_1 rfl rfl (Rk_ld _ rfl rfl rfl kr (c343.ld (o := 5) kr rfl) kr Rk_nil)))))) (NS_nil (L_c rfl rfl kr (send1_ok (p := (m.p % n)) (q := (m.q % n)) (ctx := 3) (tag := tgO m) (sync := m.sync) (d := dS i sz) (((w6).ext T351).R) (by rw [P6.n]; exact hpn) (by rw [P6.n]; exact hqn) (by decide) (by decide) (tgO_r m).1 (by have := tgO_r m; omega) (by have := (P6.len (p := (m.p % n)) hpn).1; omega) (by rw [dS_len]; omega) ((c347.sd (by rw [List.length_map, dS_len])).rb) (fun b hb => by cases hb; exact nm60) zc z1 z2) ?_))
      rintro v352 h352 ⟨e352, b20, S20, C20, ro20, R352, Y352⟩
      dsimp only at e352 R352 Y352
      rw [z3] at e352
      subst e352
      have a20x := a20
      replace a20 := a20.go Y352 c345.lt
      replace c345 := c345.sm Y352.sm a20x.mu
      have w352 := ((w6).ext T351).go Y352 R352
      replace c343 := c343
      replace c345 := c345
      replace c347 := c347
      have T352 : Sm Nix h352 h352 := .refl
      refine L_nil ⟨rfl, ?_⟩
      refine D_e (e := 13) (l := [9,10,11,12]) (s' := [11]) kr kr rfl kr Rk_nil (NS_b 4 kr (NS_nil ?_))
      obtain ⟨h353, e353, d353, t353, n353⟩ := c345.s1 3 1 (nk (W1.pr (m.p % n)).next)
      replace d353 : Cl h353 (h344.next) [nv (((m.p % n) : Nat) : Int), nk (W1.pr (m.p % n)).next, (.string ⟨⟨dS i sz⟩⟩)] := d353
      refine L_st _ rfl rfl rfl kr kr (e353) ?_
      have w353 := ((w352).ext T352).sm a20 t353
      have c345 := d353
      replace c345 := c345
      have T353 : Sm Nix h353 h353 := .refl
      refine L_nil ⟨rfl, ?_⟩
      refine D_l (l := [14]) kr kr (Rk_noRead kr) (NS_b 1 kr (NS_nil ?_))
      exact ⟨_, _, _, _, PS, ((w353).ext T353), (by rw [spS_s hm hms, hsz]; exact c345), kr, kr, kr, kr, kr, kr, kr, kr, kr, kr, kr⟩
     ·
      refine W_rg 1 kr (L_ln _ rfl rfl kr (Sd.len (P := Try.prog) (T := 23) (el := 5) kr (c347.sd (rg_len _ _))) (L_i ((sz : Int)) (0) (.bool true) rfl rfl kr kr rfl (by simp; omega) (L_nil ?_)))
      refine W_cond true kr (fun _ => ?_) (fun e => by cases e)
      refine W_rg 2 kr (L_i (100) ((i : Int)) (nv ((100 + i : Nat) : Int)) rfl rfl kr kr rfl (add_ii (by omega) (by omega)) (L_p (.int .u8 ((100 + i : Nat) : Int)) rfl (ev_conv (o := _) rfl kr (convB (by omega))) (L_ix _ rfl rfl kr kr (ix_cl (b := h346.next) (el := 5) (i := 0) kr kr h0 .i64) ?_)))
      obtain ⟨h354, e354, d354, t354, n354⟩ := c347.store (P := Try.prog) (T := 5) (o := 0) (v := .int .u8 ((100 + i : Nat) : Int)) kr rfl rfl (by rw [rg_len]; exact h0)
      rw [rg_set, dS_cells1 h0 (by omega)] at d354
      replace c343 := c343.sn t354
      replace c345 := c345.sn t354
      replace c347 := d354
      have T354 := T348.tr t354
      have N354 := T354.nx
      refine L_st _ rfl rfl rfl kr kr (e354) (L_nil (W_seq (W_region (L_g 1 kr ?_))))
      have hD : Rb h354 (.slice (some ⟨h346.next, 0, none⟩) sz sz) ((dS i sz).map bv) := (c347.sd (by rw [List.length_map, dS_len])).rb
      refine L_p (.string ⟨⟨dS i sz⟩⟩) rfl (ev_conv (o := _) rfl kr (str_ok hD)) (L_g 1 kr ?_)
      obtain ⟨h355, e355, d355, t355, n355⟩ := c345.s1 9 2 ((.string ⟨⟨dS i sz⟩⟩))
      replace d355 : Cl h355 (h344.next) [nv (((m.p % n) : Nat) : Int), nv 0, (.string ⟨⟨dS i sz⟩⟩)] := d355
      replace c343 := c343.sn t355
      replace c347 := c347.sn t355
      replace c345 := d355
      have T355 := T354.tr t355
      have N355 := T355.nx
      refine L_st _ rfl rfl rfl kr kr (e355) (L_nil (W_drawn kr (D_e (e := 4) (l := [0,1,2,3,5,6,7]) (s' := [0,1,2,5,6,7]) kr kr rfl kr Rk_nil (NS_b 3 kr (NS_ld _ rfl rfl kr kr kr (Cl.allN (n := 6) c343 rfl kr) (NS_b 2 kr (NS_ld _ rfl rfl kr kr kr (c343.ld (o := 5) kr rfl) (NS_nil (L_c rfl rfl kr (tagOf_ok hmo) ?_)))))))))
      rintro v356 h356 ⟨e356, t356⟩
      try dsimp only at e356
      try dsimp only at t356
      subst e356
      replace c343 := c343.ext t356
      replace c345 := c345.ext t356
      replace c347 := c347.ext t356
      have T356 := T355.ext t356
      have N356 := T356.nx
      have M356 := t356.nx
      refine L_nil ⟨rfl, ?_⟩
      refine D_e (e := 8) (l := []) (s' := []) kr kr rfl kr (Rk_1 rfl rfl (Rk_1 rfl rfl (Rk_1 rfl rfl (Rk_1 rfl rfl (Rk_1 rfl rfl (Rk_ld _ rfl rfl rfl kr (c343.ld (o := 5) kr rfl) kr Rk_nil)))))) (NS_nil (L_c rfl rfl kr (send1_ok (p := (m.p % n)) (q := (m.q % n)) (ctx := 3) (tag := tgO m) (sync := m.sync) (d := dS i sz) (((w6).ext T356).R) (by rw [P6.n]; exact hpn) (by rw [P6.n]; exact hqn) (by decide) (by decide) (tgO_r m).1 (by have := tgO_r m; omega) (by have := (P6.len (p := (m.p % n)) hpn).1; omega) (by rw [dS_len]; omega) ((c347.sd (by rw [List.length_map, dS_len])).rb) (fun b hb => by cases hb; exact nm60) zc z1 z2) ?_))
      rintro v357 h357 ⟨e357, b20, S20, C20, ro20, R357, Y357⟩
      dsimp only at e357 R357 Y357
      rw [z3] at e357
      subst e357
      have a20x := a20
      replace a20 := a20.go Y357 c345.lt
      replace c345 := c345.sm Y357.sm a20x.mu
      have w357 := ((w6).ext T356).go Y357 R357
      replace c343 := c343
      replace c345 := c345
      replace c347 := c347
      have T357 : Sm Nix h357 h357 := .refl
      refine L_nil ⟨rfl, ?_⟩
      refine D_e (e := 13) (l := [9,10,11,12]) (s' := [11]) kr kr rfl kr Rk_nil (NS_b 4 kr (NS_nil ?_))
      obtain ⟨h358, e358, d358, t358, n358⟩ := c345.s1 3 1 (nk (W1.pr (m.p % n)).next)
      replace d358 : Cl h358 (h344.next) [nv (((m.p % n) : Nat) : Int), nk (W1.pr (m.p % n)).next, (.string ⟨⟨dS i sz⟩⟩)] := d358
      refine L_st _ rfl rfl rfl kr kr (e358) ?_
      have w358 := ((w357).ext T357).sm a20 t358
      have c345 := d358
      replace c345 := c345
      have T358 : Sm Nix h358 h358 := .refl
      refine L_nil ⟨rfl, ?_⟩
      refine D_l (l := [14]) kr kr (Rk_noRead kr) (NS_b 1 kr (NS_nil ?_))
      exact ⟨_, _, _, _, PS, ((w358).ext T358), (by rw [spS_s hm hms, hsz]; exact c345), kr, kr, kr, kr, kr, kr, kr, kr, kr, kr, kr⟩
   ·
    have hms : m.snd = false := hb
    obtain ⟨W1, zc, P1⟩ := P6.call hcg (by omega) (p := (m.p % n)) hpn
    obtain ⟨W2, W3, z1, z2, z3, PS⟩ := P1.recv hcg (by omega) (p := (m.p % n)) (peer := ((((m.q % n) : Nat)) : Int)) (tag := if m.tag < 0 then -1 else tgO m) (by rw [spS_send hm]; exact hms) (by rw [spS_r hm hms]) hpn (by omega)
    refine W_seq (W_region (L_ld _ rfl rfl kr (Cl.allN (n := 6) c343 rfl kr) (L_c rfl rfl kr (tagOf_ok hmo) ?_)))
    rintro v359 h359 ⟨e359, t359⟩
    try dsimp only at e359
    try dsimp only at t359
    subst e359
    replace c343 := c343.ext t359
    replace c345 := c345.ext t359
    have T359 := T346.ext t359
    have N359 := T359.nx
    have M359 := t359.nx
    refine L_g 1 kr (L_nil (W_seq (W_seq ?_)))
    by_cases ht : m.tag < 0
    ·
     rw [if_pos ht] at z1
     refine W_rg 1 kr (L_ld _ rfl rfl kr (c343.ld (o := 3) kr rfl) (L_p (.bool true) rfl (ev_bin (o := _) rfl kr kr (lss8 (decide_eq_true ht))) (L_nil ?_)))
     refine W_cond true kr (fun _ => ?_) (fun e => by cases e)
     refine W_rg 1 kr (L_nil (W_rg 4 kr (L_c rfl rfl kr (recv_qa (p := (m.p % n)) (q := (m.q % n)) (ctx := 3) (room := 11) (((w6).ext T359).R) (by rw [P6.n]; exact hpn) (by rw [P6.n]; exact hqn) (by decide) (by decide) (by decide) (by decide) (by have := (P6.len (p := (m.p % n)) hpn).1; omega) zc z1 z2) ?_)))
     rintro v360 h360 ⟨e360, b24, S24, C24, ro24, R360, Y360⟩
     dsimp only at e360 R360 Y360
     rw [z3] at e360
     subst e360
     have a20x := a20
     replace a20 := a20.go Y360 c345.lt
     replace c345 := c345.sm Y360.sm a20x.mu
     have w360 := ((w6).ext T359).go Y360 R360
     replace c343 := c343
     replace c345 := c345
     have T360 : Sm Nix h360 h360 := .refl
     refine L_g 4 kr ?_
     obtain ⟨h361, e361, d361, t361, n361⟩ := c345.s1 3 1 (nk (W1.pr (m.p % n)).next)
     replace d361 : Cl h361 (h344.next) [nv (((m.p % n) : Nat) : Int), nk (W1.pr (m.p % n)).next, .string ⟨#[]⟩] := d361
     refine L_st _ rfl rfl rfl kr kr (e361) ?_
     have w361 := ((w360).ext T360).sm a20 t361
     have c345 := d361
     replace c345 := c345
     have T361 : Sm Nix h361 h361 := .refl
     refine L_g 1 kr (L_nil ?_)
     exact ⟨_, _, _, _, PS, ((w361).ext T361), (by rw [spS_r hm hms]; exact c345), kr, kr, kr, kr, kr, kr, kr, kr, kr, kr, kr⟩
    ·
     rw [if_neg ht] at z1
     refine W_rg 1 kr (L_ld _ rfl rfl kr (c343.ld (o := 3) kr rfl) (L_p (.bool false) rfl (ev_bin (o := _) rfl kr kr (lss8 (decide_eq_false ht))) (L_nil ?_)))
     refine W_cond false kr (fun e => by cases e) (fun _ => ?_)
     refine W_skip (W_rg 4 kr (L_c rfl rfl kr (recv_qt (p := (m.p % n)) (q := (m.q % n)) (ctx := 3) (tag := tgO m) (room := 11) (((w6).ext T359).R) (by rw [P6.n]; exact hpn) (by rw [P6.n]; exact hqn) (by decide) (by decide) (tgO_r m).1 (by have := tgO_r m; omega) (by decide) (by decide) (by have := (P6.len (p := (m.p % n)) hpn).1; omega) zc z1 z2) ?_))
     rintro v362 h362 ⟨e362, b24, S24, C24, ro24, R362, Y362⟩
     dsimp only at e362 R362 Y362
     rw [z3] at e362
     subst e362
     have a20x := a20
     replace a20 := a20.go Y362 c345.lt
     replace c345 := c345.sm Y362.sm a20x.mu
     have w362 := ((w6).ext T359).go Y362 R362
     replace c343 := c343
     replace c345 := c345
     have T362 : Sm Nix h362 h362 := .refl
     refine L_g 4 kr ?_
     obtain ⟨h363, e363, d363, t363, n363⟩ := c345.s1 3 1 (nk (W1.pr (m.p % n)).next)
     replace d363 : Cl h363 (h344.next) [nv (((m.p % n) : Nat) : Int), nk (W1.pr (m.p % n)).next, .string ⟨#[]⟩] := d363
     refine L_st _ rfl rfl rfl kr kr (e363) ?_
     have w363 := ((w362).ext T362).sm a20 t363
     have c345 := d363
     replace c345 := c345
     have T363 : Sm Nix h363 h363 := .refl
     refine L_g 1 kr (L_nil ?_)
     exact ⟨_, _, _, _, PS, ((w363).ext T363), (by rw [spS_r hm hms]; exact c345), kr, kr, kr, kr, kr, kr, kr, kr, kr, kr, kr⟩
  ·
   rintro fr hc ⟨N, bz, W3, G3, PS, wc, c20, yc0, yc3, yc4, yc13, yc14, yc15, yc16, yc20, yc35, yc36, yc37⟩
   refine W_set (k := 0) yc0 (W_set (k := 3) yc3 (W_set (k := 4) yc4 (W_set (k := 13) yc13 (W_set (k := 14) yc14 (W_set (k := 15) yc15 (W_set (k := 16) yc16 (W_set (k := 20) yc20 (W_set (k := 35) yc35 (W_set (k := 36) yc36 (W_set (k := 37) yc37 ?_))))))))))
   have Tc : Sm Nix hc hc := .refl
   refine W_seq (W_sg 2 kr (L_nil ?_))
   refine W_cond false kr (fun e => by cases e) (fun _ => ?_)
   refine W_skip (W_sg 1 kr (L_ld _ rfl rfl kr (Cl.allN (n := 3) c20 rfl kr) (L_nwc [nv (((m.p % n) : Nat) : Int), nk N, (.string ⟨⟨(spS n l i).d⟩⟩)] (.sl 1 1) rfl rfl kr fun h364 c364 t364 n364 => ?_)))
   replace c20 := c20.ext t364
   have T364 := Tc.ext t364
   have N364 := T364.nx
   obtain ⟨v365, h365, e365, g365, t365, f365⟩ := Gr.append (P := Try.prog) (sT := 49) (xT := 49) (el := 55) (by_ := 32) (z := .agg ⟨[nv 0, nv 0, .string ⟨#[]⟩]⟩) (m := 1) (ds := [nv (((m.p % n) : Nat) : Int), nk N, (.string ⟨⟨(spS n l i).d⟩⟩)]) kr kr kr kr kr rfl (by decide) (W4.a0 ((wc).ext T364)) (Cl.sd3 (n := 1) c364 rfl) (List.all_eq_true.1 rfl) (by omega)
   have ho365 : od (spS n l) no i ++ [nv (((m.p % n) : Nat) : Int), nk N, (.string ⟨⟨(spS n l i).d⟩⟩)] = od (spS n l) (ups no i N) (i + 1) := by
    rw [← od_succ, spS_p hm]
    rfl
   rw [ho365] at g365
   refine L_bi v365 h365 rfl rfl kr (vs := [vo, .slice (some ⟨hc.next, 0, none⟩) 1 1]) kr (bi_append e365) ?_
   replace c20 := c20
   replace c364 := c364
   have T365 : Sm Nix h365 h365 := .refl
   have w365 := W4.up0 ((wc).ext T364) (x := .gr 3 (i + 1) (od (spS n l) (ups no i N) (i + 1))) g365 (t365.mono fun b hb => ⟨(by simp), vb_vbx hb⟩) (fun b hb => (f365 b (vbx_sl (by obtain ⟨a, c, e⟩ := g365.sd.form; exact ⟨a, _, c, e⟩) hb)).imp (fun e => ⟨(by simp), vb_vbx e⟩) id)
   refine L_g 1 kr (L_nil (W_sg 1 kr (L_ln _ rfl rfl kr (Sd.len (P := Try.prog) (T := 23) (el := 5) kr ((((w365).ext T365).O).sd Ho)) (L_g 1 kr (L_nil (W_block ?_))))))
   refine W_loop (fun mm fr hh => ∃ (k : Nat) (W29 : Wd) (G29 : Gh), mm = os.length - k ∧ (k ≤ os.length) ∧ (Pn (⟨n, (E : Int), 11, (c : Int)⟩ : Mt.Ct) (spS n l) (ups no i N) (i + 1) W29) ∧ (W4 h W29 G29 v365 (.gr 3 (i + 1) (od (spS n l) (ups no i N) (i + 1))) (nv 0) .no (nv 0) .no (nv 0) .no hh) ∧ fr 0 = nv (n : Int) ∧ fr 3 = sv ∧ fr 4 = ov ∧ fr 13 = ptr (G29.B .wd) ∧ fr 15 = v365 ∧ fr 16 = nv (i : Int) ∧ fr 35 = sv ∧ fr 36 = nv (l.length : Int) ∧ fr 37 = nv (i : Int) ∧ fr 118 = nv (os.length : Int) ∧ fr 119 = nv (k : Int)) (os.length) ?_ ?_
   ·
    exact ⟨0, _, _, rfl, Nat.zero_le _, PS, ((w365).ext T365), kr, kr, kr, kr, kr, kr, kr, kr, kr, kr, kr⟩
   rintro mm fr hh29 ⟨k, W29, G29, hm29, hk, P29, w29, y290, y293, y294, y2913, y2915, y2916, y2935, y2936, y2937, y29118, y29119⟩
   refine W_set (k := 0) y290 (W_set (k := 3) y293 (W_set (k := 4) y294 (W_set (k := 13) y2913 (W_set (k := 15) y2915 (W_set (k := 16) y2916 (W_set (k := 35) y2935 (W_set (k := 36) y2936 (W_set (k := 37) y2937 (W_set (k := 118) y29118 (W_set (k := 119) y29119 ?_))))))))))
   have T29 : Sm Nix hh29 hh29 := .refl
   refine W_seq (W_region (L_i ((k : Int)) ((os.length : Int)) (.bool (decide ((k : Int) < (os.length : Int)))) rfl rfl kr kr rfl (rfl) (L_nil (W_seq ?_))))
   refine W_cond (decide ((k : Int) < (os.length : Int))) kr (fun hb => ?_) (fun hb => ?_)
   ·
    have hko : k < os.length := by simp at hb; omega
    have hx9 : (i * 7 + k) % os.length < os.length := Nat.mod_lt _ (by omega)
    obtain ⟨b8, o8, i8, l8⟩ := el_by (w29.O.sd Ho) hx9
    have hd9 : (os[(i * 7 + k) % os.length]).toNat < 256 := UInt8.toNat_lt _
    generalize (os[(i * 7 + k) % os.length]).toNat = d at l8 hd9
    refine W_skip (W_seq (W_block (W_sg 2 kr (L_nil (W_sg 2 kr (L_p (nv ((i * 7 : Nat) : Int)) rfl (ev_bin (o := _) rfl kr kr (mul7 (by omega))) (L_g 1 kr ?_)))))))
    refine L_i (((i * 7 : Nat) : Int)) ((k : Int)) (nv ((i * 7 + k : Nat) : Int)) rfl rfl kr kr rfl (add_ii (by omega) (by omega)) (L_g 1 kr (L_ln _ rfl rfl kr (Sd.len (P := Try.prog) (T := 23) (el := 5) kr ((((w29).ext T29).O).sd Ho)) (L_p (nv (((i * 7 + k) % os.length : Nat) : Int)) rfl (ev_bin (o := _) rfl kr kr (rem_d (by omega))) (L_ix _ rfl rfl kr kr (i8) (L_ld _ rfl rfl kr (l8) (L_p (nv (d : Int)) rfl (ev_conv (o := _) rfl kr (conv8 (hd9))) (L_g 1 kr (L_nil (W_seq (W_seq (W_region ?_)))))))))))
    refine L_g 2 kr (L_p (nv ((d % 4 : Nat) : Int)) rfl (ev_bin (o := _) rfl kr kr (rem_lit (c := 4) (by decide) rfl kr)) (L_i ((k : Int)) (((d % 4 : Nat) : Int)) (.bool (decide ((k : Int) > ((d % 4 : Nat) : Int)))) rfl rfl kr kr rfl (rfl) (L_nil ?_)))
    refine W_cond (decide ((k : Int) > ((d % 4 : Nat) : Int))) kr (fun hb => ?_) (fun hb => ?_)
    ·
     refine W_exit ?_
     repeat with_reducible refine then_exit ?_
     refine exit_out rfl ?_
     repeat with_reducible refine then_exit ?_
     refine exit_here (W_region (L_i ((i : Int)) (1) (nv ((i + 1 : Nat) : Int)) rfl rfl kr kr rfl (inc_ok (by omega)) (L_g 1 kr (L_nil ?_))))
     exact ⟨l.length - (i + 1), by omega, i + 1, (ups no i N), _, _, _, rfl, by omega, P29, ((w29).ext T29), kr, kr, kr, kr, kr, kr, kr, kr⟩
    ·
     refine W_skip (W_sg 1 kr (L_p (nv ((d % 3 : Nat) : Int)) rfl (ev_bin (o := _) rfl kr kr (rem_lit (c := 3) (by decide) rfl kr)) (L_i (((d % 3 : Nat) : Int)) (0) (.bool (((d % 3 : Nat) : Int) == 0)) rfl rfl kr kr rfl (rfl) (L_nil ?_))))
     refine W_cond ((((d % 3 : Nat) : Int) == 0)) kr (fun hb => ?_) (fun hb => ?_)
     ·
      obtain ⟨W5, zc5, P5⟩ := P29.call hcg (by omega) (p := d / 3 % n) (Nat.mod_lt _ hn.1)
      refine W_rg 2 kr (L_p (nv ((d / 3 : Nat) : Int)) rfl (ev_bin (o := _) rfl kr kr (quo_lit (c := 3) (hd9) (by decide) rfl kr)) (L_g 1 kr (L_p (nv ((d / 3 % n : Nat) : Int)) rfl (ev_bin (o := _) rfl kr kr (rem_n hn)) (L_c rfl rfl kr (prog_ok (((w29).ext T29).R) (p := d / 3 % n) (by rw [P29.n]; exact Nat.mod_lt _ hn.1) zc5) ?_))))
      rintro v366 h366 ⟨e366, S366, C366, ro366, R366, Y366⟩
      dsimp only at e366 R366 Y366
      subst e366
      have w366 := ((w29).ext T29).go Y366 R366
      have T366 : Sm Nix h366 h366 := .refl
      refine L_nil (W_region (L_i ((k : Int)) (1) (nv ((k + 1 : Nat) : Int)) rfl rfl kr kr rfl (inc_ok (by omega)) (L_g 1 kr (L_nil ?_))))
      exact ⟨os.length - (k + 1), by omega, k + 1, _, _, rfl, by omega, P5, ((w366).ext T366), kr, kr, kr, kr, kr, kr, kr, kr, kr, kr, kr⟩
     ·
      rcases P29.deliver hcg (by omega) (a := d / 3 % n) (b := d / 7 % n) (Nat.mod_lt _ hn.1) (Nat.mod_lt _ hn.1) with hw5 | ⟨x5, l5, hw5, hb5, P5⟩
      ·
       refine W_drawn kr (D_e (e := 9) (l := [0,1,2,3,4,5,6,7,8]) (s' := []) kr kr rfl kr Rk_nil (NS_b 2 kr (NS_v (nv ((d / 3 : Nat) : Int)) rfl kr rfl kr (ev_bin (o := _) rfl kr kr (quo_lit (c := 3) (hd9) (by decide) rfl kr)) (NS_b 1 kr (NS_v (nv ((d / 3 % n : Nat) : Int)) rfl kr rfl kr (ev_bin (o := _) rfl kr kr (rem_n hn)) (NS_b 1 kr (NS_v (nv ((d / 7 : Nat) : Int)) rfl kr rfl kr (ev_bin (o := _) rfl kr kr (quo_lit (c := 7) (hd9) (by decide) rfl kr)) (NS_b 1 kr (NS_v (nv ((d / 7 % n : Nat) : Int)) rfl kr rfl kr (ev_bin (o := _) rfl kr kr (rem_n hn)) (NS_nil (L_c rfl rfl kr (deliver_no (((w29).ext T29).R) (a := d / 3 % n) (b := d / 7 % n) (by rw [P29.n]; exact Nat.mod_lt _ hn.1) (by rw [P29.n]; exact Nat.mod_lt _ hn.1) hw5) ?_)))))))))))
       rintro v367 h367 ⟨e367, t367⟩
       try dsimp only at e367
       try dsimp only at t367
       subst e367
       have T367 := T29.ext t367
       have N367 := T367.nx
       have M367 := t367.nx
       refine L_nil ⟨rfl, ?_⟩
       refine D_l (l := []) kr kr Rk_nil (NS_nil (W_region (L_i ((k : Int)) (1) (nv ((k + 1 : Nat) : Int)) rfl rfl kr kr rfl (inc_ok (by omega)) (L_g 1 kr (L_nil ?_)))))
       exact ⟨os.length - (k + 1), by omega, k + 1, _, _, rfl, by omega, P29, ((w29).ext T367), kr, kr, kr, kr, kr, kr, kr, kr, kr, kr, kr⟩
      ·
       refine W_drawn kr (D_e (e := 9) (l := [0,1,2,3,4,5,6,7,8]) (s' := []) kr kr rfl kr Rk_nil (NS_b 2 kr (NS_v (nv ((d / 3 : Nat) : Int)) rfl kr rfl kr (ev_bin (o := _) rfl kr kr (quo_lit (c := 3) (hd9) (by decide) rfl kr)) (NS_b 1 kr (NS_v (nv ((d / 3 % n : Nat) : Int)) rfl kr rfl kr (ev_bin (o := _) rfl kr kr (rem_n hn)) (NS_b 1 kr (NS_v (nv ((d / 7 : Nat) : Int)) rfl kr rfl kr (ev_bin (o := _) rfl kr kr (quo_lit (c := 7) (hd9) (by decide) rfl kr)) (NS_b 1 kr (NS_v (nv ((d / 7 % n : Nat) : Int)) rfl kr rfl kr (ev_bin (o := _) rfl kr kr (rem_n hn)) (NS_nil (L_c rfl rfl kr (deliver_ok (((w29).ext T29).R) (a := d / 3 % n) (b := d / 7 % n) (by rw [P29.n]; exact Nat.mod_lt _ hn.1) (by rw [P29.n]; exact Nat.mod_lt _ hn.1) hw5 hb5) ?_)))))))))))
       rintro v368 h368 ⟨e368, S368, C368, ro368, R368, Y368⟩
       dsimp only at e368 R368 Y368
       subst e368
       have w368 := ((w29).ext T29).go Y368 R368
       have T368 : Sm Nix h368 h368 := .refl
       refine L_nil ⟨rfl, ?_⟩
       refine D_l (l := []) kr kr Rk_nil (NS_nil (W_region (L_i ((k : Int)) (1) (nv ((k + 1 : Nat) : Int)) rfl rfl kr kr rfl (inc_ok (by omega)) (L_g 1 kr (L_nil ?_)))))
       exact ⟨os.length - (k + 1), by omega, k + 1, _, _, rfl, by omega, P5, ((w368).ext T368), kr, kr, kr, kr, kr, kr, kr, kr, kr, kr, kr⟩
   ·
    refine W_exit ?_
    repeat with_reducible refine then_exit ?_
    refine exit_here (W_region (L_i ((i : Int)) (1) (nv ((i + 1 : Nat) : Int)) rfl rfl kr kr rfl (inc_ok (by omega)) (L_g 1 kr (L_nil ?_))))
    exact ⟨l.length - (i + 1), by omega, i + 1, (ups no i N), _, _, _, rfl, by omega, P29, ((w29).ext T29), kr, kr, kr, kr, kr, kr, kr, kr⟩
 ·
  have hge : i = l.length := by simp at hb; omega
  subst hge
  obtain ⟨j9, Γ9, W9, hj9, hs9, P9, Q9⟩ := P6.settle hcg hlen
  refine W_exit ?_
  repeat with_reducible refine then_exit ?_
  refine exit_here (W_sg 4 kr (L_c rfl rfl kr (settle_n (((w6).ext T6).R) P6.n hn.2 hj9 hs9) ?_))
  rintro v369 h369 ⟨e369, S369, C369, ro369, R369, Y369⟩
  dsimp only at e369 R369 Y369
  subst e369
  have w369 := ((w6).ext T6).go Y369 R369
  have T369 : Sm Nix h369 h369 := .refl
  refine L_g 3 kr (L_nil (W_ret ?_))
  repeat first | with_reducible refine then_ret ?_ | with_reducible refine blk_ret ?_
  refine done_of (v := .tuple ⟨[ptr (G6.B .wd), vo, .bool true]⟩) (.inl rfl) kr ?_
  refine ⟨Γ9, _, _, no, vo, ?_, P9, Q9, ((w369).ext T369)⟩
  rfl
end
end Go.Proofs.Ytmehemeoaplepaa
