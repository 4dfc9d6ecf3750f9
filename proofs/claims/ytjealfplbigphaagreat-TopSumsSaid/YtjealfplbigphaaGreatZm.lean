/- Worlds of the program and walks of its functions. -/
import Derived.Test.YtjealfplbigphaaGreatZl
namespace Go.Arm
noncomputable section
open Go Go.X
variable {P : Program} {h h' : AH} {S : Nat -> Prop} {T el : TypeId}
def Gb (h : AH) (v : Value) (N : Nat) (cs : List Value) : Prop :=
 ∃ b ty cc, v = .slice (some ⟨b, 0, none⟩) cs.length u7 /\ b < h.next /\ h.m.get b = some (.tcells ty cc N 1) /\ cs.length ≤ N /\ ∀ j, j < cs.length -> cc.get j = cs[j]?
theorem Gb.rb {v : Value} {N : Nat} {cs : List Value} (H : Gb h v N cs) : Rb h v cs := by
 obtain ⟨b, ty, cc, rfl, h1, h2, h3, h4⟩ := H
 by_cases h0 : cs = []
 . subst h0
   exact .inl ⟨rfl, _, _, rfl, (fun e => by cases e), fun q hq => by cases hq; exact h1⟩
 . refine .inr ⟨b, 0, u7, h0, qq2, rfl, h1, fun j hj => ?_⟩
   unfold AH.cell
   simp only [h2]
   rw [if_pos (by omega), Nat.zero_add]
   exact h4 j hj
theorem xv2 {b N : Nat} {ty : TypeId} {o : Nat} : ∀ (ds : List Value) (i : Nat) {h : AH} {cc : X.T Value}, h.m.get b = some (.tcells ty cc N 1) -> o + i + ds.length ≤ N -> (∀ v, v ∈ ds -> v.oneCell' = true) ->
  ∃ h' cc', h.setcs ⟨b, o, none⟩ i ds = some h' /\ h'.m.get b = some (.tcells ty cc' N 1) /\ Sm (fun k => k = b) h h' /\ h'.next = h.next /\ (∀ j, j < o + i -> cc'.get j = cc.get j) /\ ∀ j, j < ds.length -> cc'.get (o + i + j) = ds[j]?
 | [], i, h, cc, hg, _, _ => ⟨h, cc, rfl, hg, .refl, rfl, fun _ _ => rfl, fun j hj => absurd hj (Nat.not_lt_zero _)⟩
 | v :: ds, i, h, cc, hg, hn, h1 => by
  rw [List.length_cons] at hn
  have e1 : h.setc ⟨b, o + i, none⟩ v = some { h with m := h.m.set b (some (.tcells ty (cc.set (o + i) (some v)) N 1)) } := by
    unfold AH.setc
    simp only [hg]
    rw [if_pos (by omega)]
  have hs : Sm (fun k => k = b) h { h with m := h.m.set b (some (.tcells ty (cc.set (o + i) (some v)) N 1)) } := ⟨Nat.le_refl _, fun k _ hk => by
    show (h.m.set b _).get k = _
    rw [X.T.get_set, if_neg hk]⟩
  have hg2 : ({ h with m := h.m.set b (some (.tcells ty (cc.set (o + i) (some v)) N 1)) } : AH).m.get b = some (.tcells ty (cc.set (o + i) (some v)) N 1) := by
    show (h.m.set b _).get b = _
    rw [X.T.get_set, if_pos rfl]
  obtain ⟨h', cc', a1, a2, a3, a4, a5, a6⟩ := xv2 (o := o) ds (i + 1) hg2 (by omega) (fun x hx => h1 x (List.mem_cons_of_mem _ hx))
  refine ⟨h', cc', ?_, a2, hs.trans a3 (fun _ x => .inl x), a4, fun j hj => ?_, fun j hj => ?_⟩
  . unfold AH.setcs
    rw [if_pos (h1 v List.mem_cons_self)]
    dsimp only
    rw [e1]
    exact a1
  . rw [a5 j (by omega), X.T.get_set, if_neg (by omega)]
  . cases j with
    | zero =>
     rw [a5 (o + i + 0) (by omega), X.T.get_set, if_pos (by omega)]; rfl
    | succ j =>
     rw [List.length_cons] at hj
     have := a6 j (by omega)
     rw [show o + i + (j + 1) = o + (i + 1) + j by omega, this]; rfl
theorem Gb.append {sT xT : TypeId} {by_ N : Nat} {z u v : Value} {cs ds : List Value} (hT : P.underlying sT = some (.slice el)) (hx : newsK P xT = .list) (hs : szOf P el = some 1) (hb : byOf P el = some by_) (hz : zeroOf P el = some z) (hzl : (cellsL z).length = 1)
   (G : Gb h v N cs) (hu : Rb h u ds) (h1 : ∀ x, x ∈ ds -> x.oneCell' = true) (hN : cs.length + ds.length ≤ N) (hlim : N * (by_ + 1) < 1099511627776) :
   ∃ v' h', aAppend P sT xT v u h = some (v', h') /\ Gb h' v' N (cs ++ ds) /\ Sm (fun k => vb v = some k) h h' /\ h'.next = h.next /\ vb v' = vb v := by
 obtain ⟨b, ty, cc, rfl, g1, g2, g3, g4⟩ := G
 have hf := hu.first
 obtain ⟨ua, uc, rfl⟩ := hu.form
 obtain ⟨h', cc', a1, a2, a3, a4, a5, a6⟩ := xv2 (o := 0) (b := b) ds cs.length g2 (by omega) h1
 have hlim2 : (cs.length + ds.length) * (by_ + 1) < 1099511627776 := Nat.lt_of_le_of_lt (Nat.mul_le_mul_right _ hN) hlim
 refine ⟨.slice (some ⟨b, 0, none⟩) (cs.length + ds.length) u7, h', ?_, ⟨b, ty, cc', by rw [List.length_append], by rw [a4]; exact g1, a2, by rw [List.length_append]; exact hN, fun j hj => ?_⟩, a3.mono fun k hk => by subst hk; rfl, a4, rfl⟩
 . unfold aAppend
   simp only [hT, hs, hb, hz]
   unfold aNews
   have hlen : X.lenV (.slice ua ds.length uc) = some ds.length := rfl
   simp only [hx, hlen, hf]
   have hl0 : X.lenV (.slice (some ⟨b, 0, none⟩) cs.length u7) = some cs.length := rfl
   simp only [hl0]
   rw [if_pos ⟨hzl, by omega, by rw [List.all_eq_true]; exact h1, hlim2⟩]
   unfold aAppendTo
   have hop : X.opOf h b = some (N, 1) := by unfold X.opOf; simp only [g2]
   dsimp only
   rw [if_pos rfl, hop]
   dsimp only
   rw [if_pos rfl, if_pos (by omega), Nat.mul_one]
   rw [a1]
 . rw [List.length_append] at hj
   by_cases e : j < cs.length
   . rw [a5 j (by omega), g4 j e, List.getElem?_append_left e]
   . rw [List.getElem?_append_right (by omega)]
     have := a6 (j - cs.length) (by omega)
     rw [show 0 + cs.length + (j - cs.length) = j by omega] at this
     exact this
end
end Go.Arm
namespace Go.Proofs.YtjealfplbigphaaGreat
noncomputable section
open Go Go.X Go.Arm Go.Mt
theorem ev_bin {Q : Program} {n : Nat} {f : Fr} {h : AH} {o : Oper} {op : BinOp} {T T' : TypeId} {x y : Operand} {a b v : Value} (hop : o.op = .binOp op T x y T') (hx : ev n f x = some a) (hy : ev n f y = some b) (hv : aBin Q op T x y a b h = some v) : evVal Q n f h o.op = some v := by
 rw [hop]
 simp only [evVal, hx, hy]
 exact hv
theorem _root_.Go.Mt.Wd.spartsL_cons {p no i : Nat} {l : List Nat} {w w' : Wd} (h : Wd.spartsL p no (i :: l) w = some w') : ∃ w1, w.spart p no i = some w1 /\ Wd.spartsL p no l w1 = some w' := by
 unfold Wd.spartsL at h
 split at h
 . rename_i w1 h1; exact ⟨w1, h1, h⟩
 . cases h
theorem uq7 {h : AH} {xo yo : Operand} : aBin Tryz.prog .neq 23 xo yo (.slice none 0 0) (.slice none 0 0) h = some (.bool false) := by kernel_rfl
theorem yv2 {h : AH} {xo yo : Operand} {a : Addr} {n c : Nat} : aBin Tryz.prog .neq 23 xo yo (.slice (some a) n c) (.slice none 0 0) h = some (.bool true) := by kernel_rfl
theorem uj3 {h : AH} {xo yo : Operand} : aBin Tryz.prog .eql 23 xo yo (.slice none 0 0) (.slice none 0 0) h = some (.bool true) := by kernel_rfl
theorem uj2 {h : AH} {xo yo : Operand} {a : Addr} {n c : Nat} : aBin Tryz.prog .eql 23 xo yo (.slice (some a) n c) (.slice none 0 0) h = some (.bool false) := by kernel_rfl
theorem Rep.piece {W : Wd} {G : Gh} {h : AH} {p no k : Nat} {x : Option By} (R : Rep W G h) (hp : p < W.n) (hr : G.C (.rq p no) ≠ .no) (hx : (W.rq p no).pcs[k]? = some x) :
  ∃ pa v, aIndex Tryz.prog 92 (G.S (.pcs p no)) (nv (k : Int)) = some (.pointer (some pa)) /\ aLoad Tryz.prog 23 pa h = some v /\ (match x with | none => v = nilS | some d => Dr h G.ro v d /\ ∃ a n c, v = .slice (some a) n c) := by
 obtain ⟨cs, A, H, _⟩ := R.pcs hp hr
 have hk : k < (W.rq p no).pcs.length := (List.getElem?_eq_some_iff.1 hx).1
 obtain ⟨pa, xa, i1, i2, i3, i4, i5⟩ := (A).elem (P := Tryz.prog) (T := 92) (el := 23) kr kr kr hk .i64
 obtain ⟨c, ⟨v, rfl, hv⟩, _, hc⟩ := H.get hx
 have := hc 0 (by decide)
 rw [Nat.mul_one, Nat.add_zero] at this
 rw [i2] at this
 cases this
 exact ⟨pa, xa, i1, i3, by cases x <;> exact hv⟩
theorem Qj0 {a b : Nat} : Value.bool ((a : Int) == (b : Int)) = .bool (decide (a = b)) := by
 congr 1
 by_cases h : a = b
 . subst h; simp
 . have : ¬ (a : Int) = (b : Int) := by omega
   simp [h, this]
theorem _root_.Go.Mt.Wd.spart_cases {w w1 : Wd} {p no k : Nat} {x : Option By} (hx : (w.rq p no).pcs[k]? = some x) (h : w.spart p no k = some w1) : (x = none /\ w = w1) ∨ (∃ d, x = some d /\ (w.rq p no).sent[k]? = some true /\ w = w1) ∨
  ∃ d, x = some d /\ (w.rq p no).sent[k]? = some false /\ (w.rq p no).gone < big /\ (w.way p (w.rq p no).peer).length < big /\ w1 = (w.setWay p (w.rq p no).peer (w.way p (w.rq p no).peer ++ [Pk.part (w.rq p no).no k d])).setRq p no { (w.setWay p (w.rq p no).peer (w.way p (w.rq p no).peer ++ [Pk.part (w.rq p no).no k d])).rq p no with sent := ((w.setWay p (w.rq p no).peer (w.way p (w.rq p no).peer ++ [Pk.part (w.rq p no).no k d])).rq p no).sent.set k true, gone := ((w.setWay p (w.rq p no).peer (w.way p (w.rq p no).peer ++ [Pk.part (w.rq p no).no k d])).rq p no).gone + 1 } := by
 unfold Wd.spart at h
 rw [hx] at h
 cases x with
 | none => exact .inl ⟨rfl, Option.some.inj h⟩
 | some d =>
  dsimp only at h
  refine .inr ?_
  cases hs : (w.rq p no).sent[k]? with
  | none => rw [hs] at h; cases h
  | some s =>
   rw [hs] at h
   cases s with
   | true => exact .inl ⟨d, rfl, rfl, Option.some.inj h⟩
   | false =>
    dsimp only at h
    split at h
    . rename_i hg
      rw [Option.map_eq_some_iff] at h
      obtain ⟨w5, h5, rfl⟩ := h
      unfold Wd.put at h5
      split at h5
      . rename_i hl
        obtain rfl := Option.some.inj h5
        exact .inr ⟨d, rfl, rfl, hg, hl, rfl⟩
      . cases h5
    . cases h
set_option maxHeartbeats 1000000 in
theorem jq5 {W : Wd} {G : Gh} {h : AH} {p no : Nat} {W' : Wd} (R : Rep W G h) (hp : p < W.n) (hr : G.C (.rq p no) ≠ .no) (he : W.sparts p no = some W') :
   Arm.Calls Tryz.prog 133 [ptr (G.B .wd), nv (p : Int), ptr (G.B (.rq p no))] h (fun r => Nxt W' G h r.2) := by
 unfold Wd.sparts at he
 split at he
 rotate_right
 . cases he
 rename_i hNb
 have hNb : (W.rq p no).pcs.length < 1000000000 := hNb
 rw [Option.map_eq_some_iff] at he
 obtain ⟨W9, hst0, rfl⟩ := he
 obtain ⟨dv0, hd0, c0⟩ := R.rqL hp hr
 replace c0 : Arm.Cl h (G.B (.rq p no)) (rqX (W.rq p no) dv0 (G.S (.pcs p no)) (G.S (.snt p no))) := c0
 obtain ⟨cs0, A0, L0, hC0⟩ := R.pcs hp hr
 refine j9 71 Tryz.f133 ?_
 have T0 : Sm Nix h h := .refl
 refine q7 (z1 3 kr (z9 _ rfl rfl kr ((c0.ext T0).ld (o := 13) kr rfl) (V4 _ rfl rfl kr ((A0.sd).len (P := Tryz.prog) (T := 92) (el := 23) kr) (L_g 1 kr (q5 (u3 ?_))))))
 refine J5 (fun mm fr hh => ∃ (k : Nat) (Wk : Wd) (Sk : Ro -> Value) (Ck : Ro -> Th) (rk : Nat -> Prop), mm = (W.rq p no).pcs.length - k /\ k ≤ (W.rq p no).pcs.length /\ Wd.spartsL p no ((List.range (W.rq p no).pcs.length).drop k) Wk = some W9 /\ Wk.n = W.n /\ (Wk.rq p no).pcs = (W.rq p no).pcs /\ Rep Wk (⟨G.B, Sk, Ck, rk⟩ : Gh) hh /\ Gx G h (⟨G.B, Sk, Ck, rk⟩ : Gh) hh /\
    fr 0 = ptr (G.B .wd) /\ fr 1 = nv (p : Int) /\ fr 2 = ptr (G.B (.rq p no)) /\ fr 11 = G.S (.pcs p no) /\ fr 12 = nv ((W.rq p no).pcs.length : Int) /\ fr 13 = nv (k : Int)) ((W.rq p no).pcs.length) ?_ ?_
 ·
   exact ⟨0, W, G.S, G.C, G.ro, rfl, Nat.zero_le _, by rw [List.drop_zero]; exact hst0, rfl, rfl, R.ext T0, Gx.of T0, kr, kr, kr, kr, kr, kr⟩
 rintro mm fr hh ⟨k, Wk, Sk, Ck, rk, hm, hk, hst, hn, hpe, Rk, Xk, y0, y1, y2, y11, y12, y13⟩
 refine j8 (k := 0) y0 (j8 (k := 1) y1 (j8 (k := 2) y2 (j8 (k := 11) y11 (j8 (k := 12) y12 (j8 (k := 13) y13 ?_)))))
 have TK : Sm Nix hh hh := .refl
 have hpk : p < Wk.n := by rw [hn]; exact hp
 have hrk : Ck (.rq p no) ≠ .no := (Xk.keep _ hr).1
 have hfx := (Xk.fix p no hr).1
 refine q7 (q6 (L_i ((k : Int)) (((W.rq p no).pcs.length : Int)) (.bool (decide ((k : Int) < ((W.rq p no).pcs.length : Int)))) rfl rfl kr kr rfl (rfl) (q5 (q7 ?_))))
 refine Q0 (decide ((k : Int) < ((W.rq p no).pcs.length : Int))) kr (fun hb => ?_) (fun hb => ?_)
 ·
   have hlt : k < (W.rq p no).pcs.length := by simp at hb; omega
   have hdr : (List.range (W.rq p no).pcs.length).drop k = k :: (List.range (W.rq p no).pcs.length).drop (k + 1) := by rw [List.drop_eq_getElem_cons (by rw [List.length_range]; exact hlt), List.getElem_range]
   rw [hdr] at hst
   obtain ⟨W1, hst1, hst2⟩ := Wd.spartsL_cons hst
   obtain ⟨x, hx⟩ : ∃ x, (Wk.rq p no).pcs[k]? = some x := ⟨_, List.getElem?_eq_getElem (by rw [hpe]; exact hlt)⟩
   obtain ⟨pa9, v9, ix9, ld9, hv9⟩ := Rep.piece Rk hpk hrk hx
   rw [show Gh.S (⟨G.B, Sk, Ck, rk⟩ : Gh) (.pcs p no) = G.S (.pcs p no) from hfx] at ix9
   obtain ⟨dvz, hdz, cz⟩ := Rk.rqL hpk hrk
   replace cz : Arm.Cl hh (G.B (.rq p no)) (rqX (Wk.rq p no) dvz ((⟨G.B, Sk, Ck, rk⟩ : Gh).S (.pcs p no)) ((⟨G.B, Sk, Ck, rk⟩ : Gh).S (.snt p no))) := cz
   refine z6 (q7 (u3 (q7 ?_)))
   rcases Wd.spart_cases hx hst1 with ⟨rfl, rfl⟩ | ⟨d, rfl, hsk, rfl⟩ | ⟨d, rfl, hsk, hgn, hlw, rfl⟩
   ·
    obtain rfl : v9 = nilS := hv9
    refine Z3 1 kr (Z8 _ rfl rfl kr kr (ix9) (z9 _ rfl rfl kr (ld9) (L_g 2 kr (q5 (z1 1 kr (L_p (.bool false) rfl (ev_bin (o := _) rfl kr kr uq7) (L_g 10 kr (q5 ?_))))))))
    refine Q2 kr (z6 (q6 (L_i ((k : Int)) (1) (nv ((k + 1 : Nat) : Int)) rfl rfl kr kr rfl (Z4 (by have : (1000000000 : Nat) = big := rfl; omega)) (L_g 1 kr (q5 ?_)))))
    exact ⟨(W.rq p no).pcs.length - (k + 1), by omega, k + 1, _, _, _, _, rfl, by omega, hst2, hn, hpe, (Rk.ext TK), ((Xk).trans (Gx.of TK)), kr, kr, kr, kr, kr, kr⟩
   ·
    obtain ⟨ad9, nd9, cd9, rfl⟩ := hv9.2
    obtain ⟨ws8, hs8⟩ := Rk.snt (p := p) (no := no) hpk hrk
    have hks : k < (Wk.rq p no).sent.length := (List.getElem?_eq_some_iff.1 hsk).1
    obtain ⟨pas, xas, i1s, i2s, i3s, i4s, i5s⟩ := ws8.elem (P := Tryz.prog) (T := 93) (el := 4) kr kr kr hks .i64
    rw [List.getElem?_map, hsk] at i2s
    cases i2s
    refine Z3 1 kr (Z8 _ rfl rfl kr kr (ix9) (z9 _ rfl rfl kr (ld9) (L_g 2 kr (q5 (z1 1 kr (L_p (.bool true) rfl (ev_bin (o := _) rfl kr kr (yv2 (a := ad9) (n := nd9) (c := cd9))) (L_g 4 kr (u9 kr ?_))))))))
    refine z9 _ rfl rfl kr ((cz.ext TK).ld (o := 15) kr rfl) (L_g 1 kr (u9 kr (Z8 _ rfl rfl kr kr (i1s) (u9 kr (z9 _ rfl rfl kr (i3s) (L_g 2 kr (q5 (Q2 kr (z6 (q6 (L_i ((k : Int)) (1) (nv ((k + 1 : Nat) : Int)) rfl rfl kr kr rfl (Z4 (by have : (1000000000 : Nat) = big := rfl; omega)) ?_)))))))))))
    refine L_g 1 kr (q5 ?_)
    exact ⟨(W.rq p no).pcs.length - (k + 1), by omega, k + 1, _, _, _, _, rfl, by omega, hst2, hn, hpe, (Rk.ext TK), ((Xk).trans (Gx.of TK)), kr, kr, kr, kr, kr, kr⟩
   ·
    obtain ⟨ad9, nd9, cd9, rfl⟩ := hv9.2
    obtain ⟨ws8, hs8⟩ := Rk.snt (p := p) (no := no) hpk hrk
    have hks : k < (Wk.rq p no).sent.length := (List.getElem?_eq_some_iff.1 hsk).1
    obtain ⟨pas, xas, i1s, i2s, i3s, i4s, i5s⟩ := ws8.elem (P := Tryz.prog) (T := 93) (el := 4) kr kr kr hks .i64
    rw [List.getElem?_map, hsk] at i2s
    cases i2s
    have hgn9 : (Wk.rq p no).gone + 1 < 9223372036854775808 := by have : (1000000000 : Nat) = big := rfl; omega
    clear hst
    refine Z3 1 kr (Z8 _ rfl rfl kr kr (ix9) (z9 _ rfl rfl kr (ld9) (L_g 2 kr (q5 (z1 1 kr (L_p (.bool true) rfl (ev_bin (o := _) rfl kr kr (yv2 (a := ad9) (n := nd9) (c := cd9))) (L_g 4 kr (u9 kr ?_))))))))
    refine z9 _ rfl rfl kr ((cz.ext TK).ld (o := 15) kr rfl) (L_g 1 kr (u9 kr (Z8 _ rfl rfl kr kr (i1s) (u9 kr (z9 _ rfl rfl kr (i3s) (L_g 2 kr (q5 (U7 kr (q7 (u4 kr (D_e (e := 14) (l := [0,1,2,3,4,5,6,7,8,9,10,11,12,13]) (s' := []) kr kr rfl kr z4 ?_)))))))))))
    refine z2 5 kr (q9 _ rfl rfl kr kr kr ((cz.ext TK).ld (o := 1) kr rfl) (z2 3 kr (q9 _ rfl rfl kr kr kr ((cz.ext TK).ld (o := 0) kr rfl) (z2 4 kr (z5 (L_c rfl rfl kr (E8 (Rk.ext TK) (x := .part (Wk.rq p no).no k d) ⟨_, hv9.1.ext TK, ⟨_, _, _, rfl⟩, rfl⟩ hlw) ?_))))))
    rintro v243 h243 N243
    dsimp only at N243
    obtain ⟨S243, C243, ro243, R243, Y243⟩ := N243
    have X243 := ((Xk).trans (Gx.of TK)).trans Y243
    have hr_243 := (Y243.keep _ hrk).1
    have T243 : Sm (Ow h (⟨Gh.B (⟨G.B, Sk, Ck, rk⟩ : Gh), S243, C243, ro243⟩ : Gh)) h243 h243 := .refl
    obtain ⟨dvy, hdy, cy⟩ := R243.rqL (p := p) hpk hr_243
    replace cy : Arm.Cl h243 (G.B (.rq p no)) (rqX (Wk.rq p no) dvy ((⟨G.B, S243, C243, ro243⟩ : Gh).S (.pcs p no)) ((⟨G.B, S243, C243, ro243⟩ : Gh).S (.snt p no))) := cy
    obtain ⟨ws9, hs9⟩ := R243.snt (p := p) (no := no) hpk hr_243
    obtain ⟨pay, xay, i1y, i2y, i3y, i4y, i5y⟩ := ws9.elem (P := Tryz.prog) (T := 93) (el := 4) kr kr kr hks .i64
    refine q5 ⟨rfl, ?_⟩
    refine D_l (l := []) kr kr z4 (z5 (z1 3 kr (z9 _ rfl rfl kr ((cy.sm T243 (fun hx => hx.2.1 ⟨.rq p no, hr_243, rfl⟩)).ld (o := 15) kr rfl) (L_g 1 kr (Z8 _ rfl rfl kr kr (i1y) ?_)))))
    obtain ⟨h244, e244, w244, t244, n244⟩ := i5y (.bool true) rfl rfl
    have N244 : Nxt ((Wk.setWay p (Wk.rq p no).peer (Wk.way p (Wk.rq p no).peer ++ [Pk.part (Wk.rq p no).no k d])).setRq p no { (Wk.setWay p (Wk.rq p no).peer (Wk.way p (Wk.rq p no).peer ++ [Pk.part (Wk.rq p no).no k d])).rq p no with sent := ((Wk.setWay p (Wk.rq p no).peer (Wk.way p (Wk.rq p no).peer ++ [Pk.part (Wk.rq p no).no k d])).rq p no).sent.set k true }) (⟨Gh.B (⟨G.B, Sk, Ck, rk⟩ : Gh), S243, C243, ro243⟩ : Gh) h243 h244 := (R243.ow T243).setSnt (p := p) (no := no) hpk hr_243 (by rw [List.length_set, List.map_set]; exact w244) t244
    refine Q3 _ rfl rfl rfl kr kr (e244) ?_
    obtain ⟨S244, C244, ro244, R244, Y244⟩ := N244
    have X244 := ((X243).ow T243).trans Y244
    have hr_244 := (Y244.keep _ hr_243).1
    have T244 : Sm (Ow h (⟨Gh.B (⟨Gh.B (⟨G.B, Sk, Ck, rk⟩ : Gh), S243, C243, ro243⟩ : Gh), S244, C244, ro244⟩ : Gh)) h244 h244 := .refl
    refine q5 (q6 (L_g 3 kr ?_))
    obtain ⟨dvu, hdu, cu⟩ := R244.rqL (p := p) (no := no) hpk hr_244
    rw [Wd.setRq_at] at hdu cu
    replace cu : Arm.Cl h244 (Gh.B (⟨Gh.B (⟨Gh.B (⟨G.B, Sk, Ck, rk⟩ : Gh), S243, C243, ro243⟩ : Gh), S244, C244, ro244⟩ : Gh) (.rq p no)) (rqX ((Wk.setWay p (Wk.rq p no).peer (Wk.way p (Wk.rq p no).peer ++ [Pk.part (Wk.rq p no).no k d])).rq p no) dvu ((⟨Gh.B (⟨Gh.B (⟨G.B, Sk, Ck, rk⟩ : Gh), S243, C243, ro243⟩ : Gh), S244, C244, ro244⟩ : Gh).S (.pcs p no)) ((⟨Gh.B (⟨Gh.B (⟨G.B, Sk, Ck, rk⟩ : Gh), S243, C243, ro243⟩ : Gh), S244, C244, ro244⟩ : Gh).S (.snt p no))) := cu
    refine z9 _ rfl rfl kr ((cu.sm T244 (fun hx => hx.2.1 ⟨.rq p no, hr_244, rfl⟩)).ld (o := 14) kr rfl) (L_i (((Wk.rq p no).gone : Int)) (1) (nv (((Wk.rq p no).gone + 1 : Nat) : Int)) rfl rfl kr kr rfl (Z4 (show _ < 1000000000 from hgn)) (L_g 2 kr ?_))
    obtain ⟨dv9, hd9, c9⟩ := (R244.ow T244).rqL hpk hr_244
    replace c9 : Cl h244 (Gh.B (⟨Gh.B (⟨Gh.B (⟨G.B, Sk, Ck, rk⟩ : Gh), S243, C243, ro243⟩ : Gh), S244, C244, ro244⟩ : Gh) (.rq p no)) (rqX (((Wk.setWay p (Wk.rq p no).peer (Wk.way p (Wk.rq p no).peer ++ [Pk.part (Wk.rq p no).no k d])).setRq p no { (Wk.setWay p (Wk.rq p no).peer (Wk.way p (Wk.rq p no).peer ++ [Pk.part (Wk.rq p no).no k d])).rq p no with sent := ((Wk.setWay p (Wk.rq p no).peer (Wk.way p (Wk.rq p no).peer ++ [Pk.part (Wk.rq p no).no k d])).rq p no).sent.set k true }).rq p no) dv9 ((⟨Gh.B (⟨Gh.B (⟨G.B, Sk, Ck, rk⟩ : Gh), S243, C243, ro243⟩ : Gh), S244, C244, ro244⟩ : Gh).S (.pcs p no)) ((⟨Gh.B (⟨Gh.B (⟨G.B, Sk, Ck, rk⟩ : Gh), S243, C243, ro243⟩ : Gh), S244, C244, ro244⟩ : Gh).S (.snt p no))) := c9
    obtain ⟨h245, e245, d245, t245, n245⟩ := c9.s1 3 14 (nv (((Wk.rq p no).gone + 1 : Nat) : Int))
    have N245 : Nxt (((Wk.setWay p (Wk.rq p no).peer (Wk.way p (Wk.rq p no).peer ++ [Pk.part (Wk.rq p no).no k d])).setRq p no { (Wk.setWay p (Wk.rq p no).peer (Wk.way p (Wk.rq p no).peer ++ [Pk.part (Wk.rq p no).no k d])).rq p no with sent := ((Wk.setWay p (Wk.rq p no).peer (Wk.way p (Wk.rq p no).peer ++ [Pk.part (Wk.rq p no).no k d])).rq p no).sent.set k true }).setRq p no { (((Wk.setWay p (Wk.rq p no).peer (Wk.way p (Wk.rq p no).peer ++ [Pk.part (Wk.rq p no).no k d])).setRq p no { (Wk.setWay p (Wk.rq p no).peer (Wk.way p (Wk.rq p no).peer ++ [Pk.part (Wk.rq p no).no k d])).rq p no with sent := ((Wk.setWay p (Wk.rq p no).peer (Wk.way p (Wk.rq p no).peer ++ [Pk.part (Wk.rq p no).no k d])).rq p no).sent.set k true }).rq p no) with gone := (Wk.rq p no).gone + 1 }) (⟨Gh.B (⟨Gh.B (⟨G.B, Sk, Ck, rk⟩ : Gh), S243, C243, ro243⟩ : Gh), S244, C244, ro244⟩ : Gh) h244 h245 := (R244.ow T244).stRq hpk hr_244 (r := { (((Wk.setWay p (Wk.rq p no).peer (Wk.way p (Wk.rq p no).peer ++ [Pk.part (Wk.rq p no).no k d])).setRq p no { (Wk.setWay p (Wk.rq p no).peer (Wk.way p (Wk.rq p no).peer ++ [Pk.part (Wk.rq p no).no k d])).rq p no with sent := ((Wk.setWay p (Wk.rq p no).peer (Wk.way p (Wk.rq p no).peer ++ [Pk.part (Wk.rq p no).no k d])).rq p no).sent.set k true }).rq p no) with gone := (Wk.rq p no).gone + 1 }) hd9 d245 t245 rfl rfl rfl
    clear hd9
    refine Q3 _ rfl rfl rfl kr kr (e245) ?_
    obtain ⟨S245, C245, ro245, R245, Y245⟩ := N245
    have X245 := ((X244).ow T244).trans Y245
    have hr_245 := (Y245.keep _ hr_244).1
    have T245 : Sm (Ow h (⟨Gh.B (⟨Gh.B (⟨Gh.B (⟨G.B, Sk, Ck, rk⟩ : Gh), S243, C243, ro243⟩ : Gh), S244, C244, ro244⟩ : Gh), S245, C245, ro245⟩ : Gh)) h245 h245 := .refl
    have eW9 : (((Wk.setWay p (Wk.rq p no).peer (Wk.way p (Wk.rq p no).peer ++ [Pk.part (Wk.rq p no).no k d])).setRq p no { (Wk.setWay p (Wk.rq p no).peer (Wk.way p (Wk.rq p no).peer ++ [Pk.part (Wk.rq p no).no k d])).rq p no with sent := ((Wk.setWay p (Wk.rq p no).peer (Wk.way p (Wk.rq p no).peer ++ [Pk.part (Wk.rq p no).no k d])).rq p no).sent.set k true }).setRq p no { ((Wk.setWay p (Wk.rq p no).peer (Wk.way p (Wk.rq p no).peer ++ [Pk.part (Wk.rq p no).no k d])).setRq p no { (Wk.setWay p (Wk.rq p no).peer (Wk.way p (Wk.rq p no).peer ++ [Pk.part (Wk.rq p no).no k d])).rq p no with sent := ((Wk.setWay p (Wk.rq p no).peer (Wk.way p (Wk.rq p no).peer ++ [Pk.part (Wk.rq p no).no k d])).rq p no).sent.set k true }).rq p no with gone := (Wk.rq p no).gone + 1 }) = (Wk.setWay p (Wk.rq p no).peer (Wk.way p (Wk.rq p no).peer ++ [Pk.part (Wk.rq p no).no k d])).setRq p no { (Wk.setWay p (Wk.rq p no).peer (Wk.way p (Wk.rq p no).peer ++ [Pk.part (Wk.rq p no).no k d])).rq p no with sent := ((Wk.setWay p (Wk.rq p no).peer (Wk.way p (Wk.rq p no).peer ++ [Pk.part (Wk.rq p no).no k d])).rq p no).sent.set k true, gone := ((Wk.setWay p (Wk.rq p no).peer (Wk.way p (Wk.rq p no).peer ++ [Pk.part (Wk.rq p no).no k d])).rq p no).gone + 1 } := by simp only [Wd.setRq_at, Wd.setRq_setRq]; rfl
    rw [eW9] at R245
    refine q5 (q6 (L_i ((k : Int)) (1) (nv ((k + 1 : Nat) : Int)) rfl rfl kr kr rfl (Z4 (by have : (1000000000 : Nat) = big := rfl; omega)) (L_g 1 kr (q5 ?_))))
    exact ⟨(W.rq p no).pcs.length - (k + 1), by omega, k + 1, _, _, _, _, rfl, by omega, hst2, hn, (by rw [Wd.setRq_at]; exact hpe), (R245.ow T245), ((X245).ow T245), kr, kr, kr, kr, kr, kr⟩
 ·
   have hge : k = (W.rq p no).pcs.length := by simp at hb; omega
   rw [hge, List.drop_of_length_le (by rw [List.length_range]; exact Nat.le_refl _)] at hst
   obtain rfl := Option.some.inj hst
   obtain ⟨dvz, hdz, cz⟩ := Rk.rqL hpk hrk
   replace cz : Arm.Cl hh (G.B (.rq p no)) (rqX (Wk.rq p no) dvz ((⟨G.B, Sk, Ck, rk⟩ : Gh).S (.pcs p no)) ((⟨G.B, Sk, Ck, rk⟩ : Gh).S (.snt p no))) := cz
   refine J8 ?_
   refine rx ?_
   refine Q7 (u4 kr (D_e (e := 12) (l := [0,1,2,3,4,5,6,7,8,9,10,11]) (s' := []) kr kr rfl kr z4 (z2 4 kr (q9 _ rfl rfl kr kr kr ((cz.ext TK).ld (o := 14) kr rfl) (z2 3 kr (q9 _ rfl rfl kr kr kr ((cz.ext TK).ld (o := 10) kr rfl) (J3 (((Wk.rq p no).gone : Int)) (((Wk.rq p no).parts : Int)) (.bool (decide ((Wk.rq p no).gone = (Wk.rq p no).parts))) rfl rfl kr kr kr kr rfl (Qj0) (z2 2 kr (z5 ?_)))))))))
   obtain ⟨dv9, hd9, c9⟩ := (Rk.ext TK).rqL hpk hrk
   replace c9 : Cl hh (Gh.B (⟨G.B, Sk, Ck, rk⟩ : Gh) (.rq p no)) (rqX (Wk.rq p no) dv9 ((⟨G.B, Sk, Ck, rk⟩ : Gh).S (.pcs p no)) ((⟨G.B, Sk, Ck, rk⟩ : Gh).S (.snt p no))) := c9
   obtain ⟨h246, e246, d246, t246, n246⟩ := c9.s1 4 9 (.bool (decide ((Wk.rq p no).gone = (Wk.rq p no).parts)))
   have N246 : Nxt (Wk.setRq p no { (Wk.rq p no) with done := decide ((Wk.rq p no).gone = (Wk.rq p no).parts) }) (⟨G.B, Sk, Ck, rk⟩ : Gh) hh h246 := (Rk.ext TK).stRq hpk hrk (r := { (Wk.rq p no) with done := decide ((Wk.rq p no).gone = (Wk.rq p no).parts) }) hd9 d246 t246 rfl rfl rfl
   clear hd9
   refine Q3 _ rfl rfl rfl kr kr (e246) ?_
   obtain ⟨S246, C246, ro246, R246, Y246⟩ := N246
   have X246 := ((Xk).trans (Gx.of TK)).trans Y246
   have hr_246 := (Y246.keep _ hrk).1
   have T246 : Sm (Ow h (⟨Gh.B (⟨G.B, Sk, Ck, rk⟩ : Gh), S246, C246, ro246⟩ : Gh)) h246 h246 := .refl
   refine q5 ⟨rfl, ?_⟩
   refine D_l (l := []) kr kr z4 (z5 ?_)
   repeat with_reducible refine Q9 ?_
   refine z0 (v := .tuple ⟨[]⟩) (.inr rfl) kr ?_
   exact ⟨_, _, _, (R246.ow T246), ((X246).ow T246)⟩
end
end Go.Proofs.YtjealfplbigphaaGreat
namespace Go.Proofs.YtjealfplbigphaaGreat
noncomputable section
open Go Go.X Go.Arm Go.Mt
theorem Qz3 {h : AH} : Arm.Calls Tryz.prog 138 [(.slice none 0 0)] h (fun r => r.1 = .bool true /\ Sm Nix h r.2) := by
 refine j9 5 Tryz.f138 ?_
 have T0 : Sm Nix h h := .refl
 refine z1 1 kr (q5 (z1 1 kr (L_p (.bool true) rfl (ev_bin (o := _) rfl kr kr uj3) (L_g 1 kr (q5 (j7 ?_))))))
 refine rr ?_
 refine z0 (v := .bool true) (.inl rfl) kr ?_
 exact ⟨rfl, T0⟩
theorem jg8 {h : AH} {a : Addr} {n c : Nat} : Arm.Calls Tryz.prog 138 [.slice (some a) n c] h (fun r => r.1 = .bool false /\ Sm Nix h r.2) := by
 refine j9 5 Tryz.f138 ?_
 have T0 : Sm Nix h h := .refl
 refine z1 1 kr (q5 (z1 1 kr (L_p (.bool false) rfl (ev_bin (o := _) rfl kr kr (uj2 (a := a) (n := n) (c := c))) (L_g 1 kr (q5 (j7 ?_))))))
 refine rr ?_
 refine z0 (v := .bool false) (.inl rfl) kr ?_
 exact ⟨rfl, T0⟩
theorem ixf_by {h : AH} {s : Value} {g : FuncId} {cs : List Value} {α : Type} {l : List α} {pr : α -> Bool} (H : Sd h 1 s l.length cs) (hl : l.length < big) (hg : ∀ vs h, aCallX Tryz.prog g vs h = some [(.enter g vs, h)])
  (hc : ∀ (i : Nat) x, l[i]? = some x -> ∃ v, cs[i]? = some v /\ ∀ h', Sm Nix h h' -> Arm.Calls Tryz.prog g [v] h' (fun r => r.1 = .bool (pr x) /\ Sm Nix h' r.2)) :
  Arm.Calls Tryz.prog 140 [s, .func (.func g) ⟨[]⟩ ⟨[]⟩] h (fun r => r.1 = nv (match l.findIdx? pr with | some i => (i : Int) | none => -1) /\ Sm Nix h r.2) := by
 have hl : l.length < 1000000000 := hl
 refine j9 19 Tryz.f140 ?_
 have T0 : Sm Nix h h := .refl
 refine z1 1 kr (q5 (q7 (z1 1 kr (V4 _ rfl rfl kr ((H.ext T0).len (T := 92) (el := 23) kr) (L_g 1 kr (q5 (u3 ?_)))))))
 refine J5 (fun mm fr hh => ∃ (k : Nat), (k ≤ l.length) /\ (l.findIdx? pr = ((l.drop k).findIdx? pr).map (· + k)) /\ mm = l.length - k /\ fr 0 = s /\ fr 1 = .func (.func g) ⟨[]⟩ ⟨[]⟩ /\ fr 7 = nv (l.length : Int) /\ fr 8 = nv (k : Int) /\ Sm Nix h hh) (l.length) ?_ ?_
 ·
  exact ⟨0, Nat.zero_le _, by simp, rfl, kr, kr, kr, kr, T0⟩
 rintro mm249 fr249 h249 ⟨k, hk, hf, hm249, y249_0, y249_1, y249_7, y249_8, T249⟩
 have N249 := T249.nx
 refine j8 (k := 0) y249_0 (j8 (k := 1) y249_1 (j8 (k := 7) y249_7 (j8 (k := 8) y249_8 (z1 1 kr (q5 (q7 ?_))))))
 refine Q0 (decide ((k : Int) < (l.length : Nat))) kr (fun hb => ?_) (fun hb => ?_)
 ·
  have hlt : k < l.length := by simp at hb; omega
  obtain ⟨x, hx⟩ : ∃ x, l[k]? = some x := ⟨_, List.getElem?_eq_getElem hlt⟩
  have hdr : l.drop k = x :: l.drop (k + 1) := by rw [List.drop_eq_getElem_cons hlt]; congr 1; exact (List.getElem?_eq_some_iff.1 hx).2
  obtain ⟨v, hv, hcall⟩ := hc k x hx
  obtain ⟨b9, o9, _, i9, l9⟩ := (H.ext T249).at (P := Tryz.prog) (T := 92) (el := 23) kr kr hlt .i64
  refine z6 (q7 (u3 (z1 2 kr (q5 (z1 3 kr (Z8 _ rfl rfl kr kr (i9) (z9 _ rfl rfl kr (K5 kr (by have := l9 0 (by decide); rw [Nat.add_zero, Nat.mul_one, Nat.add_zero] at this; rw [this]; exact hv)) ?_)))))))
  refine L_c rfl rfl (Eq.trans (b := aCallX Tryz.prog g [v] h249) kr (hg _ _)) (hcall _ T249) ?_
  rintro v250 h250 ⟨e250, t250⟩
  try dsimp only at e250 t250
  subst e250
  have T250 := T249.ext t250
  have N250 := T250.nx
  have M250 := t250.nx
  refine q5 ?_
  refine Q0 (pr x) kr (fun hb => ?_) (fun hb => ?_)
  ·
   have hres : nv (match l.findIdx? pr with | some i => (i : Int) | none => -1) = nv (k : Int) := by rw [hf, hdr, List.findIdx?_cons, hb]; simp
   rw [hres]
   refine z1 2 kr (q5 (j7 ?_))
   refine rr ?_
   refine z0 (v := nv (k : Int)) (.inl rfl) kr ?_
   exact ⟨rfl, T250⟩
  ·
   have hfb : pr x = false := hb
   refine z6 (q6 (L_i ((k : Int)) (1) (nv ((k + 1 : Nat) : Int)) rfl rfl kr kr rfl (Z4 (by omega)) (L_g 1 kr (q5 ?_))))
   exact ⟨l.length - (k + 1), by omega, k + 1, by omega, qv6 hf hdr hfb, rfl, kr, kr, kr, kr, T250⟩
 ·
  have hge : k = l.length := by simp at hb; omega
  have hres : nv (match l.findIdx? pr with | some i => (i : Int) | none => -1) = nv (-1) := by rw [hf, hge]; simp
  rw [hres]
  refine J8 ?_
  refine rx ?_
  refine Q7 (z1 1 kr (q5 (j7 ?_)))
  refine rr ?_
  refine z0 (v := nv (-1)) (.inl rfl) kr ?_
  exact ⟨rfl, T249⟩
theorem uv4 {α : Type} {l : List α} {q : α -> Bool} : (l.findIdx? q).isSome = l.any q := by
 induction l with
 | nil => rfl
 | cons x l ih =>
  rw [List.findIdx?_cons, List.any_cons, <- ih]
  cases q x <;> cases l.findIdx? q <;> rfl
theorem yv0 {W : Wd} {G : Gh} {h : AH} {p no : Nat} (R : Rep W G h) (hp : p < W.n) (hr : G.C (.rq p no) ≠ .no) (hl : (W.rq p no).pcs.length < big) :
  Arm.Calls Tryz.prog 137 [G.S (.pcs p no), .func (.func 138) ⟨[]⟩ ⟨[]⟩] h (fun r => r.1 = .bool ((W.rq p no).pcs.any Option.isNone) /\ Sm Nix h r.2) := by
 obtain ⟨cs, A, H, _⟩ := R.pcs hp hr
 have hix := ixf_by (pr := Option.isNone) (l := (W.rq p no).pcs) A.sd hl (g := 138) (fun _ _ => by kernel_rfl) (fun i x hx => by
  obtain ⟨c, ⟨v, rfl, hv⟩, _, hc⟩ := H.get hx
  have h9 := hc 0 (by decide)
  rw [Nat.mul_one, Nat.add_zero] at h9
  refine ⟨v, h9, fun h' t => ?_⟩
  cases x with
  | none => obtain rfl : v = nilS := hv; exact Qz3
  | some d => obtain ⟨a, n, c, rfl⟩ := hv.2; exact jg8)
 rw [<- uv4]
 cases hf : (W.rq p no).pcs.findIdx? Option.isNone with
 | none =>
  rw [hf] at hix
  refine j9 9 Tryz.f137 ?_
  have T0 : Sm Nix h h := .refl
  refine z1 1 kr (q5 (z1 2 kr (L_c rfl rfl kr (hix) ?_)))
  rintro v247 h247 ⟨e247, t247⟩
  try dsimp only at e247 t247
  subst e247
  have T247 := T0.ext t247
  have N247 := T247.nx
  have M247 := t247.nx
  refine L_i (-1) (0) (.bool false) rfl rfl kr kr rfl (by first | (simp; done) | (simp; omega)) (L_g 1 kr (q5 (j7 ?_)))
  refine rr ?_
  refine z0 (v := .bool false) (.inl rfl) kr ?_
  exact ⟨rfl, T247⟩
 | some i =>
  rw [hf] at hix
  refine j9 9 Tryz.f137 ?_
  have T0 : Sm Nix h h := .refl
  refine z1 1 kr (q5 (z1 2 kr (L_c rfl rfl kr (hix) ?_)))
  rintro v248 h248 ⟨e248, t248⟩
  try dsimp only at e248 t248
  subst e248
  have T248 := T0.ext t248
  have N248 := T248.nx
  have M248 := t248.nx
  refine L_i ((i : Int)) (0) (.bool true) rfl rfl kr kr rfl (by first | (simp; done) | (simp; omega)) (L_g 1 kr (q5 (j7 ?_)))
  refine rr ?_
  refine z0 (v := .bool true) (.inl rfl) kr ?_
  exact ⟨rfl, T248⟩
end
end Go.Proofs.YtjealfplbigphaaGreat
namespace Go.Arm
noncomputable section
open Go Go.X
variable {P : Program} {h h' : AH} {S : Nat -> Prop} {T el : TypeId}
theorem jv1 (z : Value) (m : Nat) : (zrep m [z]).length = m := by
 induction m with
 | zero => rfl
 | succ m ih => rw [zrep, List.length_append, ih]; simp; omega
theorem Gb.room {sT xT : TypeId} {by_ N : Nat} {z : Value} (hT : P.underlying sT = some (.slice el)) (hx : newsK P xT = .zeros) (hs : szOf P el = some 1) (hb : byOf P el = some by_) (hz : zeroOf P el = some z) (hzl : cellsL z = [z]) (hz1 : z.oneCell' = true) (hu8 : isU8 P el = some el)
   (hN : 0 < N) (hlim : N * (by_ + 1) < 1099511627776) :
   ∃ h', aAppend P sT xT (.slice none 0 0) (.int .i64 (N : Nat)) h = some (.slice (some ⟨h.next, 0, none⟩) N u7, h') /\ Gb h' (.slice (some ⟨h.next, 0, none⟩) 0 u7) N [] /\ Sm Nix h h' /\ h'.next = h.next + 1 /\ opOf h' h.next = some (N, 1) := by
 have hN2 : N < 1099511627776 := Nat.lt_of_le_of_lt (Nat.le_mul_of_pos_right N (Nat.succ_pos _)) hlim
 have hn : aNews P xT 1 z (.int .i64 ((N : Nat) : Int)) h = some (N, zrep N [z]) := by
   have hi2 : (N : Int) < 1099511627776 := by omega
   unfold aNews
   rw [hx]
   show (if 0 ≤ (N : Int) /\ (N : Int) < 1099511627776 then some ((N : Int).toNat, zrep (N : Int).toNat (cellsL z)) else none) = _
   rw [if_pos ⟨Int.natCast_nonneg _, hi2⟩, Int.toNat_natCast, hzl]
 refine ⟨⟨h.m.set h.next (some (.tcells el (X.T.fill (zrep N [z]) 0 .e) N 1)), h.next + 1⟩, ?_, ⟨h.next, el, X.T.fill (zrep N [z]) 0 .e, rfl, Nat.lt_succ_self _, ?_, Nat.zero_le _, fun j hj => absurd hj (Nat.not_lt_zero _)⟩, ⟨Nat.le_succ _, fun k hk _ => ?_⟩, rfl, ?_⟩
 . unfold aAppend
   simp only [hT, hs, hb, hz]
   rw [hn]
   have hl0 : X.lenV (.slice none 0 0) = some 0 := rfl
   simp only [hl0]
   rw [if_pos ⟨by rw [hzl]; rfl, by rw [jv1, Nat.mul_one], by
    rw [List.all_eq_true]
    intro x hx
    have : ∀ m, x ∈ zrep m [z] -> x = z := fun m => by
     induction m with
     | zero => intro h; cases h
     | succ m ih =>
      intro h
      rw [zrep] at h
      rcases List.mem_append.1 h with h | h
      . exact List.mem_singleton.1 h
      . exact ih h
    rw [this N hx]; exact hz1, by rw [Nat.zero_add]; exact hlim⟩]
   unfold aAppendTo
   dsimp only
   rw [if_pos ⟨rfl, rfl⟩, if_neg (by omega)]
   unfold AH.newo
   rw [hu8]
   simp [mkO, jv1]
 . show (h.m.set h.next _).get h.next = _
   rw [X.T.get_set, if_pos rfl]
 . show (h.m.set h.next _).get k = _
   rw [X.T.get_set, if_neg (by omega)]
 . unfold X.opOf
   show (match (h.m.set h.next _).get h.next with | some (.cells _ n op false) => some (n, op) | some (.tcells _ _ n op) => some (n, op) | _ => none) = _
   rw [X.T.get_set, if_pos rfl]
theorem uj9 {b N n : Nat} (hT : P.underlying T = some (.slice el)) (hk : szOf P el = some 1) (hop : X.opOf h b = some (n, 1)) : aSl P T (.slice (some ⟨b, 0, none⟩) N u7) none (some (.int .i64 0)) none h = some (.slice (some ⟨b, 0, none⟩) 0 u7) := by
 unfold aSl aSlice
 simp only [hT, hk, hop]
 rw [if_pos (by rfl)]
 rw [if_pos trivial]
 have hb : bnd (some (.int .i64 0)) N = some 0 := by unfold bnd; simp
 have hb0 : bnd none 0 = some 0 := by unfold bnd; rfl
 rw [hb, hb0]
 dsimp only
 rw [if_pos ⟨Nat.le_refl _, rfl, .inl (Nat.zero_le _)⟩]
theorem xg3 {sT xT : TypeId} {by_ : Nat} {z : Value} {a : Option Addr} {c : Nat} (hT : P.underlying sT = some (.slice el)) (hx : newsK P xT = .list) (hs : szOf P el = some 1) (hb : byOf P el = some by_) (hz : zeroOf P el = some z) (hzl : (cellsL z).length = 1) (hu : Rb h (.slice a 0 c) []) :
  aAppend P sT xT (.slice none 0 0) (.slice a 0 c) h = some (.slice none 0 0, h) := by
 have hf := hu.first
 unfold aAppend
 simp only [hT, hs, hb, hz]
 unfold aNews
 have hlen : X.lenV (.slice a 0 c) = some 0 := rfl
 have hf : aFirst 1 0 (.slice a 0 c) h = some [] := hf
 simp only [hx, hlen, hf]
 have hl0 : X.lenV (.slice none 0 0) = some 0 := rfl
 simp only [hl0]
 rw [if_pos ⟨hzl, rfl, rfl, by omega⟩]
 unfold aAppendTo
 dsimp only
 rw [if_pos ⟨rfl, rfl⟩, if_pos rfl]
end
end Go.Arm
namespace Go.Proofs.YtjealfplbigphaaGreat
noncomputable section
open Go Go.X Go.Arm Go.Mt
theorem ug4 {h : AH} : aSl Tryz.prog 23 (.slice none 0 0) none (some (nv 0)) none h = some (.slice none 0 0) := by kernel_rfl
theorem zv0 {h : AH} : aLen Tryz.prog 23 (.slice none 0 0) h = some (nv 0) := by kernel_rfl
theorem sub0 {N : Nat} (h : N < 1000000000) : Value.int .i64 (IntKind.i64.wrap ((N : Int) - 0)) = nv (N : Int) := by
 have : IntKind.i64.wrap ((N : Int) - 0) = (N : Int) := by rw [IntKind.wrap_i64]; omega
 rw [this]; rfl
theorem ux4 {h : AH} {N : Nat} (hN0 : N = 0) : Arm.Calls Tryz.prog 141 [(.slice none 0 0), nv (N : Int)] h (fun r => r.1 = (.slice none 0 0) /\ Sm Nix h r.2) := by
 have hN9 : N < 1000000000 := by omega
 refine j9 27 Tryz.f141 ?_
 have T0 : Sm Nix h h := .refl
 refine z1 1 kr (q5 (q7 (z1 1 kr (L_i ((N : Int)) (0) (.bool false) rfl rfl kr kr rfl (congrArg Value.bool (decide_eq_false (by omega))) (q5 (Q2 kr (z6 ?_)))))))
 refine q7 (z1 2 kr (L_p (nv 0) rfl kr (L_g 1 kr (V4 _ rfl rfl kr (zv0) (L_i (0) (0) (nv 0) rfl rfl kr kr rfl (rfl) (L_i ((N : Int)) (0) (nv (N : Int)) rfl rfl kr kr rfl (sub0 hN9) (L_g 1 kr (q5 (q7 ?_)))))))))
 refine Z3 1 kr (L_i ((N : Int)) (0) (.bool false) rfl rfl kr kr rfl (congrArg Value.bool (decide_eq_false (by omega))) (q5 (Q2 kr (z6 (z1 2 kr (q5 (j7 ?_)))))))
 refine rr ?_
 refine z0 (v := (.slice none 0 0)) (.inl rfl) kr ?_
 exact ⟨rfl, T0⟩
theorem Qx4 {h : AH} {N : Nat} (hN0 : 0 < N) (hN9 : N < 1000000000) : Arm.Calls Tryz.prog 141 [(.slice none 0 0), nv (N : Int)] h (fun r => Gb r.2 r.1 N [] /\ Sm Nix h r.2 /\ ∀ b, vb r.1 = some b -> h.next ≤ b /\ b < r.2.next) := by
 refine j9 27 Tryz.f141 ?_
 have T0 : Sm Nix h h := .refl
 refine z1 1 kr (q5 (q7 (z1 1 kr (L_i ((N : Int)) (0) (.bool false) rfl rfl kr kr rfl (congrArg Value.bool (decide_eq_false (by omega))) (q5 (Q2 kr (z6 ?_)))))))
 refine q7 (z1 2 kr (L_p (nv 0) rfl kr (L_g 1 kr (V4 _ rfl rfl kr (zv0) (L_i (0) (0) (nv 0) rfl rfl kr kr rfl (rfl) (L_i ((N : Int)) (0) (nv (N : Int)) rfl rfl kr kr rfl (sub0 hN9) (L_g 1 kr (q5 (q7 ?_)))))))))
 refine Z3 1 kr (L_i ((N : Int)) (0) (.bool true) rfl rfl kr kr rfl (congrArg Value.bool (decide_eq_true (by omega))) (q5 (U7 kr (Z3 2 kr (L_p (nv 0) rfl kr (xu2 _ rfl rfl kr kr kr kr (ug4) (L_g 1 kr ?_)))))))
 obtain ⟨h251, e251, g251, t251, n251, o251⟩ := Gb.room (P := Tryz.prog) (h := h) (sT := 23) (xT := 3) (el := 5) (by_ := 1) (z := .int .u8 0) (N := N) kr kr kr kr kr rfl rfl kr hN0 (by omega)
 refine V9 _ _ rfl rfl kr kr (J7 e251) ?_
 have T251 := T0.ext t251
 have N251 := T251.nx
 refine L_g 1 kr (V4 _ rfl rfl kr (zv0) (xu2 _ rfl rfl kr kr kr kr (uj9 (N := N) (el := 5) kr kr o251) (L_g 1 kr (q5 (z1 2 kr (q5 (j7 ?_)))))))
 refine rr ?_
 refine z0 (v := .slice (some ⟨h.next, 0, none⟩) 0 u7) (.inl rfl) kr ?_
 exact ⟨g251, T251, fun b hb => by cases hb; exact ⟨Nat.le_refl _, show h.next < h251.next by have := n251; omega⟩⟩
end
end Go.Proofs.YtjealfplbigphaaGreat
namespace Go.Proofs.YtjealfplbigphaaGreat
noncomputable section
open Go Go.X Go.Arm Go.Mt
theorem zz4 {l : List (Option By)} {k : Nat} {d : By} (h : l[k]? = some (some d)) : (Wd.catD (l.take (k + 1))) = (Wd.catD (l.take k)) ++ d := by
 unfold Wd.catD
 rw [List.take_add_one, h, List.flatMap_append]
 simp
theorem yy4 (l : List (Option By)) (k : Nat) : (Wd.catD (l.take k)).length ≤ (Wd.catD l).length := by
 have : Wd.catD l = (Wd.catD (l.take k)) ++ Wd.catD (l.drop k) := by
  unfold Wd.catD
  rw [<- List.flatMap_append, List.take_append_drop]
 rw [this, List.length_append]; omega
theorem add_b {a b n : Nat} (h1 : n = a + b) (h2 : n < 1000000000) : Value.int .i64 (IntKind.i64.wrap ((a : Int) + (b : Int))) = nv (n : Int) := by
 have : IntKind.i64.wrap ((a : Int) + (b : Int)) = (n : Int) := by rw [IntKind.wrap_i64]; omega
 rw [this]; rfl
set_option maxHeartbeats 1000000 in
theorem jj9 {h : AH} {s : Value} {cs : List Value} {l : List (Option By)} (H : Sd h 1 s l.length cs) (hl : l.length < big) (hN : (Wd.catD l).length < big) (hc : ∀ (i : Nat) x, l[i]? = some x -> ∃ (v : Value) (d : By), x = some d /\ cs[i]? = some v /\ Rb h v (d.map bv)) :
  Arm.Calls Tryz.prog 139 [s] h (fun r => Rb r.2 r.1 ((Wd.catD l).map bv) /\ Sm Nix h r.2 /\ ∀ b, vb r.1 = some b -> h.next ≤ b /\ b < r.2.next) := by
 have hl : l.length < 1000000000 := hl
 have hN9 : (Wd.catD l).length < 1000000000 := hN
 refine j9 36 Tryz.f139 ?_
 have T0 : Sm Nix h h := .refl
 refine z1 1 kr (q5 (z1 1 kr (q5 (q7 (q7 (q6 (L_g 1 kr ?_)))))))
 refine V4 _ rfl rfl kr ((H.ext T0).len (T := 92) (el := 23) kr) (L_g 1 kr (q5 (u3 ?_)))
 refine J5 (fun mm fr hh => ∃ (k : Nat), (k ≤ l.length) /\ mm = l.length - k /\ fr 0 = s /\ fr 3 = nv ((Wd.catD (l.take k)).length : Int) /\ fr 9 = s /\ fr 10 = nv (l.length : Int) /\ fr 11 = nv (k : Int) /\ Sm Nix h hh) (l.length) ?_ ?_
 ·
  exact ⟨0, Nat.zero_le _, rfl, kr, kr, kr, kr, kr, T0⟩
 rintro mm252 fr252 h252 ⟨k, hk, hm252, y252_0, y252_3, y252_9, y252_10, y252_11, T252⟩
 have N252 := T252.nx
 refine j8 (k := 0) y252_0 (j8 (k := 3) y252_3 (j8 (k := 9) y252_9 (j8 (k := 10) y252_10 (j8 (k := 11) y252_11 (q7 (q6 (L_i ((k : Int)) ((l.length : Int)) (.bool (decide ((k : Int) < (l.length : Int)))) rfl rfl kr kr rfl (rfl) (q5 (q7 ?_)))))))))
 refine Q0 (decide ((k : Int) < (l.length : Int))) kr (fun hb => ?_) (fun hb => ?_)
 ·
  have hlt : k < l.length := by simp at hb; omega
  obtain ⟨y, hy⟩ : ∃ y, l[k]? = some y := ⟨_, List.getElem?_eq_getElem hlt⟩
  obtain ⟨v, d, rfl, hv, hr9⟩ := hc k y hy
  obtain ⟨b9, o9, _, i9, l9⟩ := (H.ext T252).at (P := Tryz.prog) (T := 92) (el := 23) kr kr hlt .i64
  have l9' : aLoad Tryz.prog 23 ⟨b9, o9, none⟩ h252 = some v := K5 kr (by have := l9 0 (by decide); rw [Nat.add_zero, Nat.mul_one, Nat.add_zero] at this; rw [this]; exact hv)
  have hc1 := zz4 hy
  have hc2 : (Wd.catD (l.take (k + 1))).length ≤ (Wd.catD l).length := yy4 _ _
  refine z6 (q7 (u3 (q7 (q6 (Z8 _ rfl rfl kr kr (i9) (z9 _ rfl rfl kr (l9') (L_g 1 kr (q5 (q7 (q6 (L_g 2 kr ?_)))))))))))
  refine V4 _ rfl rfl kr ((Rb.len (P := Tryz.prog) (T := 23) (el := 5) (hr9.ext T252) kr)) (L_i (((Wd.catD (l.take k)).length : Int)) (((d.map bv).length : Int)) (nv ((Wd.catD (l.take (k + 1))).length : Int)) rfl rfl kr kr rfl (add_b (by rw [hc1, List.length_append, List.length_map]) (by omega)) (L_g 1 kr (q5 (z1 1 kr (L_i (((Wd.catD (l.take (k + 1))).length : Int)) (0) (.bool false) rfl rfl kr kr rfl (congrArg Value.bool (decide_eq_false (by omega))) (q5 (Q2 kr (z6 (q6 ?_)))))))))
  refine L_i ((k : Int)) (1) (nv ((k + 1 : Nat) : Int)) rfl rfl kr kr rfl (Z4 (by omega)) (L_g 1 kr (q5 ?_))
  exact ⟨l.length - (k + 1), by omega, k + 1, by omega, rfl, kr, kr, kr, kr, kr, T252⟩
 ·
  have hge : k = l.length := by simp at hb; omega
  refine J8 ?_
  refine rx ?_
  refine Q7 (q7 ?_)
  rcases Nat.eq_zero_or_pos (Wd.catD l).length with h0 | h0
  ·
   refine Z3 1 kr (L_c rfl rfl kr ((show Arm.Calls Tryz.prog 141 [(.slice none 0 0), nv ((Wd.catD (l.take k)).length : Int)] h252 (fun r => r.1 = (.slice none 0 0) /\ Sm Nix h252 r.2) by rw [hge, List.take_length]; exact ux4 h0)) ?_)
   rintro v253 h253 ⟨e253, t253⟩
   try dsimp only at e253 t253
   subst e253
   have T253 := T252.ext t253
   have N253 := T253.nx
   have M253 := t253.nx
   refine L_g 1 kr (q5 (q7 (z1 1 kr (V4 _ rfl rfl kr ((H.ext T253).len (T := 92) (el := 23) kr) (L_g 1 kr (q5 (u3 ?_)))))))
   refine J5 (fun mm fr hh => ∃ (k : Nat) (va : Value), (k ≤ l.length) /\ (((Wd.catD l).length = 0 /\ va = (.slice none 0 0)) ∨ Gb hh va (Wd.catD l).length ((Wd.catD (l.take k)).map bv)) /\ (∀ b, vb va = some b -> h.next ≤ b /\ b < hh.next) /\ mm = l.length - k /\ fr 6 = va /\ fr 25 = s /\ fr 26 = nv (l.length : Int) /\ fr 27 = nv (k : Int) /\ Sm Nix h hh) (l.length) ?_ ?_
   ·
    exact ⟨0, (.slice none 0 0), Nat.zero_le _, (.inl ⟨h0, rfl⟩), (fun b hb => by cases hb), rfl, kr, kr, kr, kr, T253⟩
   rintro mm254 fr254 h254 ⟨k, va, hk2, hA, hva, hm254, y254_6, y254_25, y254_26, y254_27, T254⟩
   have N254 := T254.nx
   refine j8 (k := 6) y254_6 (j8 (k := 25) y254_25 (j8 (k := 26) y254_26 (j8 (k := 27) y254_27 (q7 (q6 (L_i ((k : Int)) ((l.length : Int)) (.bool (decide ((k : Int) < (l.length : Int)))) rfl rfl kr kr rfl (rfl) (q5 (q7 ?_))))))))
   refine Q0 (decide ((k : Int) < (l.length : Int))) kr (fun hb => ?_) (fun hb => ?_)
   ·
    have hlt : k < l.length := by simp at hb; omega
    obtain ⟨y, hy⟩ : ∃ y, l[k]? = some y := ⟨_, List.getElem?_eq_getElem hlt⟩
    obtain ⟨v, d, rfl, hv, hr9⟩ := hc k y hy
    obtain ⟨b9, o9, _, i9, l9⟩ := (H.ext T254).at (P := Tryz.prog) (T := 92) (el := 23) kr kr hlt .i64
    have l9' : aLoad Tryz.prog 23 ⟨b9, o9, none⟩ h254 = some v := K5 kr (by have := l9 0 (by decide); rw [Nat.add_zero, Nat.mul_one, Nat.add_zero] at this; rw [this]; exact hv)
    have hc1 := zz4 hy
    have hc2 : (Wd.catD (l.take (k + 1))).length ≤ (Wd.catD l).length := yy4 _ _
    refine z6 (q7 (u3 (q7 (q6 (Z8 _ rfl rfl kr kr (i9) (z9 _ rfl rfl kr (l9') (L_g 1 kr (q5 ?_))))))))
    rcases hA with ⟨hN0, rfl⟩ | hG
    ·
      have hd0 : d = [] := by
       have := congrArg List.length hc1
       rw [List.length_append] at this
       exact List.length_eq_zero_iff.1 (by omega)
      subst hd0
      have hrz := hr9.ext T254
      obtain ⟨az, cz, rfl⟩ := hr9.form
      refine Z3 2 kr (V9 (.slice none 0 0) h254 rfl rfl kr (vs := [(.slice none 0 0), .slice az 0 cz]) kr (J7 (xg3 (P := Tryz.prog) (sT := 23) (xT := 23) (el := 5) (by_ := 1) (z := .int .u8 0) kr kr kr kr kr rfl hrz)) (L_g 1 kr (q5 (q6 (L_i ((k : Int)) (1) (nv ((k + 1 : Nat) : Int)) rfl rfl kr kr rfl (Z4 (by omega)) (L_g 1 kr (q5 ?_)))))))
      exact ⟨l.length - (k + 1), by omega, k + 1, (.slice none 0 0), by omega, (.inl ⟨hN0, rfl⟩), (fun b hb => by cases hb), rfl, kr, kr, kr, kr, T254⟩
    ·
      refine q6 (L_g 2 kr ?_)
      obtain ⟨v255, h255, e255, g255, t255, n255, q255⟩ := hG.append (P := Tryz.prog) (sT := 23) (xT := 23) (el := 5) (by_ := 1) (z := .int .u8 0) kr kr kr kr kr rfl (hr9.ext T254) (qw2 d) (by rw [List.length_map, List.length_map, <- List.length_append, <- hc1]; exact hc2) (by omega)
      rw [<- List.map_append, <- hc1] at g255
      refine V9 v255 h255 rfl rfl kr (vs := [va, v]) kr (J7 e255) ?_
      have T255 : Sm Nix h h255 := T254.trans t255 (fun b hb => .inr (hva b hb).1)
      have N255 := T255.nx
      refine L_g 1 kr (q5 (q6 (L_i ((k : Int)) (1) (nv ((k + 1 : Nat) : Int)) rfl rfl kr kr rfl (Z4 (by omega)) (L_g 1 kr (q5 ?_)))))
      exact ⟨l.length - (k + 1), by omega, k + 1, v255, by omega, (.inr g255), (fun b hb => by rw [q255] at hb; rw [n255]; exact hva b hb), rfl, kr, kr, kr, kr, T255⟩
   ·
    have hge2 : k = l.length := by simp at hb; omega
    rw [hge2, List.take_length] at hA
    refine J8 ?_
    refine rx ?_
    refine Q7 (z1 2 kr (q5 (j7 ?_)))
    refine rr ?_
    refine z0 (v := va) (.inl rfl) kr ?_
    refine ⟨?_, T254, hva⟩
    rcases hA with ⟨hN0, rfl⟩ | hG
    . rw [List.length_eq_zero_iff.1 hN0]; exact Rb.nil
    . exact hG.rb
  ·
   refine Z3 1 kr (L_c rfl rfl kr ((show Arm.Calls Tryz.prog 141 [(.slice none 0 0), nv ((Wd.catD (l.take k)).length : Int)] h252 (fun r => Gb r.2 r.1 (Wd.catD l).length [] /\ Sm Nix h252 r.2 /\ ∀ b, vb r.1 = some b -> (h252).next ≤ b /\ b < r.2.next) by rw [hge, List.take_length]; exact Qx4 h0 hN9)) ?_)
   rintro v256 h256 ⟨g256, t256, f256⟩
   dsimp only at g256 t256 f256
   have T256 := T252.ext t256
   have N256 := T256.nx
   refine L_g 1 kr (q5 (q7 (z1 1 kr (V4 _ rfl rfl kr ((H.ext T256).len (T := 92) (el := 23) kr) (L_g 1 kr (q5 (u3 ?_)))))))
   refine J5 (fun mm fr hh => ∃ (k : Nat) (va : Value), (k ≤ l.length) /\ (((Wd.catD l).length = 0 /\ va = (.slice none 0 0)) ∨ Gb hh va (Wd.catD l).length ((Wd.catD (l.take k)).map bv)) /\ (∀ b, vb va = some b -> h.next ≤ b /\ b < hh.next) /\ mm = l.length - k /\ fr 6 = va /\ fr 25 = s /\ fr 26 = nv (l.length : Int) /\ fr 27 = nv (k : Int) /\ Sm Nix h hh) (l.length) ?_ ?_
   ·
    exact ⟨0, v256, Nat.zero_le _, (.inr g256), (fun b hb => ⟨by have := (f256 b hb).1; omega, (f256 b hb).2⟩), rfl, kr, kr, kr, kr, T256⟩
   rintro mm257 fr257 h257 ⟨k, va, hk2, hA, hva, hm257, y257_6, y257_25, y257_26, y257_27, T257⟩
   have N257 := T257.nx
   refine j8 (k := 6) y257_6 (j8 (k := 25) y257_25 (j8 (k := 26) y257_26 (j8 (k := 27) y257_27 (q7 (q6 (L_i ((k : Int)) ((l.length : Int)) (.bool (decide ((k : Int) < (l.length : Int)))) rfl rfl kr kr rfl (rfl) (q5 (q7 ?_))))))))
   refine Q0 (decide ((k : Int) < (l.length : Int))) kr (fun hb => ?_) (fun hb => ?_)
   ·
    have hlt : k < l.length := by simp at hb; omega
    obtain ⟨y, hy⟩ : ∃ y, l[k]? = some y := ⟨_, List.getElem?_eq_getElem hlt⟩
    obtain ⟨v, d, rfl, hv, hr9⟩ := hc k y hy
    obtain ⟨b9, o9, _, i9, l9⟩ := (H.ext T257).at (P := Tryz.prog) (T := 92) (el := 23) kr kr hlt .i64
    have l9' : aLoad Tryz.prog 23 ⟨b9, o9, none⟩ h257 = some v := K5 kr (by have := l9 0 (by decide); rw [Nat.add_zero, Nat.mul_one, Nat.add_zero] at this; rw [this]; exact hv)
    have hc1 := zz4 hy
    have hc2 : (Wd.catD (l.take (k + 1))).length ≤ (Wd.catD l).length := yy4 _ _
    refine z6 (q7 (u3 (q7 (q6 (Z8 _ rfl rfl kr kr (i9) (z9 _ rfl rfl kr (l9') (L_g 1 kr (q5 ?_))))))))
    rcases hA with ⟨hN0, rfl⟩ | hG
    ·
      have hd0 : d = [] := by
       have := congrArg List.length hc1
       rw [List.length_append] at this
       exact List.length_eq_zero_iff.1 (by omega)
      subst hd0
      have hrz := hr9.ext T257
      obtain ⟨az, cz, rfl⟩ := hr9.form
      refine Z3 2 kr (V9 (.slice none 0 0) h257 rfl rfl kr (vs := [(.slice none 0 0), .slice az 0 cz]) kr (J7 (xg3 (P := Tryz.prog) (sT := 23) (xT := 23) (el := 5) (by_ := 1) (z := .int .u8 0) kr kr kr kr kr rfl hrz)) (L_g 1 kr (q5 (q6 (L_i ((k : Int)) (1) (nv ((k + 1 : Nat) : Int)) rfl rfl kr kr rfl (Z4 (by omega)) (L_g 1 kr (q5 ?_)))))))
      exact ⟨l.length - (k + 1), by omega, k + 1, (.slice none 0 0), by omega, (.inl ⟨hN0, rfl⟩), (fun b hb => by cases hb), rfl, kr, kr, kr, kr, T257⟩
    ·
      refine q6 (L_g 2 kr ?_)
      obtain ⟨v258, h258, e258, g258, t258, n258, q258⟩ := hG.append (P := Tryz.prog) (sT := 23) (xT := 23) (el := 5) (by_ := 1) (z := .int .u8 0) kr kr kr kr kr rfl (hr9.ext T257) (qw2 d) (by rw [List.length_map, List.length_map, <- List.length_append, <- hc1]; exact hc2) (by omega)
      rw [<- List.map_append, <- hc1] at g258
      refine V9 v258 h258 rfl rfl kr (vs := [va, v]) kr (J7 e258) ?_
      have T258 : Sm Nix h h258 := T257.trans t258 (fun b hb => .inr (hva b hb).1)
      have N258 := T258.nx
      refine L_g 1 kr (q5 (q6 (L_i ((k : Int)) (1) (nv ((k + 1 : Nat) : Int)) rfl rfl kr kr rfl (Z4 (by omega)) (L_g 1 kr (q5 ?_)))))
      exact ⟨l.length - (k + 1), by omega, k + 1, v258, by omega, (.inr g258), (fun b hb => by rw [q258] at hb; rw [n258]; exact hva b hb), rfl, kr, kr, kr, kr, T258⟩
   ·
    have hge2 : k = l.length := by simp at hb; omega
    rw [hge2, List.take_length] at hA
    refine J8 ?_
    refine rx ?_
    refine Q7 (z1 2 kr (q5 (j7 ?_)))
    refine rr ?_
    refine z0 (v := va) (.inl rfl) kr ?_
    refine ⟨?_, T257, hva⟩
    rcases hA with ⟨hN0, rfl⟩ | hG
    . rw [List.length_eq_zero_iff.1 hN0]; exact Rb.nil
    . exact hG.rb
end
end Go.Proofs.YtjealfplbigphaaGreat
namespace Go.Proofs.YtjealfplbigphaaGreat
noncomputable section
open Go Go.X Go.Arm Go.Mt
theorem zg3 {f : Nat -> Value} {l : List Nat} {k : Nat} (h : k ∈ l) : kget (l.map fun (x : Nat) => ((x : Int), f x)) (k : Int) = some (f k) := by
 induction l with
 | nil => cases h
 | cons x l ih =>
  rw [List.map_cons]
  unfold kget
  by_cases e : x = k
  . subst e; rw [if_pos rfl]
  . rw [if_neg (show ¬ ((x : Int) = (k : Int)) by omega)]
    rcases List.mem_cons.1 h with h | h
    . exact (e h.symm).elim
    . exact ih h
theorem jx6 {f : Nat -> Value} {l : List ((Int × Int) × Nat)} {k : Int × Int} : kget (l.map fun e => (e.1, f e.2)) k = (kget l k).map f := by
 induction l with
 | nil => rfl
 | cons x l ih =>
  rw [List.map_cons]
  unfold kget
  by_cases e : x.1 = k
  . rw [if_pos e, if_pos e]; rfl
  . rw [if_neg e, if_neg e]; exact ih
theorem yk1 {κ : Type} [DecidableEq κ] (f : Nat -> Value) (l : List (κ × Nat)) (k : κ) : kdel (l.map fun e => (e.1, f e.2)) k = (kdel l k).map fun e => (e.1, f e.2) := by
 induction l with
 | nil => rfl
 | cons x l ih =>
  simp only [List.map_cons]
  unfold kdel
  split
  . rfl
  . rw [List.map_cons, ih]
theorem yk0 {κ β : Type} [DecidableEq κ] {l : List (κ × β)} {k : κ} {x : κ × β} (h : x ∈ kdel l k) : x ∈ l := by
 induction l with
 | nil => cases h
 | cons y l ih =>
  unfold kdel at h
  split at h
  . exact List.mem_cons_of_mem _ h
  . rcases List.mem_cons.1 h with h | h
    . exact List.mem_cons.2 (.inl h)
    . exact List.mem_cons_of_mem _ (ih h)
theorem yz3 {W : Wd} {G : Gh} {h : AH} {p no : Nat} {c : Bool} (R : Rep W G h) (hp : p < W.n) (hm : no ∈ (W.pr p).reqs) : aLookup Tryz.prog 65 (.map (some (G.B (.rqs p)))) (nv (no : Int)) c h = some (tupOk c (ptr (G.B (.rq p no))) true) := by
 rcases (R.rqs hp).1.lookup (P := Tryz.prog) (T := 65) (kt := 3) (el := 100) (z := .pointer none) kr kNum kr (no : Int) c with ⟨h1, _⟩ | ⟨v, x, h1, h2, h3⟩
 . rw [zg3 (f := fun k => ptr (G.B (.rq p k))) hm] at h1; cases h1
 . rw [zg3 (f := fun k => ptr (G.B (.rq p k))) hm] at h1; cases h1; subst h2; exact h3
theorem xk1 {W : Wd} {G : Gh} {h : AH} {p no : Nat} {k : Int × Int} {c : Bool} (R : Rep W G h) (hp : p < W.n) (hm : kget (W.pr p).exps k = some no) : aLookup Tryz.prog 66 (.map (some (G.B (.exs p)))) (k2 k) c h = some (tupOk c (ptr (G.B (.rq p no))) true) := by
 have hk : kget ((W.pr p).exps.map fun e => (e.1, ptr (G.B (.rq p e.2)))) k = some (ptr (G.B (.rq p no))) := by
   rw [jx6 (f := fun k => ptr (G.B (.rq p k))), hm]; rfl
 rcases (R.exs hp).1.lookup (P := Tryz.prog) (T := 66) (kt := 184) (el := 100) (z := .pointer none) kr xk5 kr k c with ⟨h1, _⟩ | ⟨v, x, h1, h2, h3⟩
 . rw [hk] at h1; cases h1
 . rw [hk] at h1; cases h1; subst h2; exact h3
theorem yv9 {κ β : Type} [DecidableEq κ] {l : List (κ × β)} {k : κ} {n : β} (h : kget l k = some n) : ∃ x, x ∈ l /\ x.2 = n := by
 induction l with
 | nil => cases h
 | cons y l ih =>
  unfold kget at h
  split at h
  . exact ⟨y, List.mem_cons.2 (.inl rfl), Option.some.inj h⟩
  . obtain ⟨x, h1, h2⟩ := ih h; exact ⟨x, List.mem_cons_of_mem _ h1, h2⟩
theorem jj0 {W : Wd} {G : Gh} {h : AH} {p no : Nat} {f : Int} {W1 : Wd} (R : Rep W G h) (hp : p < W.n) (hm : no ∈ (W.pr p).reqs) (h0 : (W.rq p no).parts = 0) (he : W.put p f (.body no (W.rq p no).data) = some W1) :
   Arm.Calls Tryz.prog 132 [.agg ⟨[nv (no : Int)]⟩, ptr (G.B .wd), nv (p : Int), nv f] h (fun r => Nxt (W1.setRq p no { W1.rq p no with done := true }) G h r.2) := by
 have hr := (R.rel.pr p hp).rqp no hm
 unfold Wd.put at he
 split at he
 . rename_i hlw
   obtain rfl := Option.some.inj he
   obtain ⟨dv0, hd0, c0⟩ := R.rqL hp hr
   replace c0 : Arm.Cl h (G.B (.rq p no)) (rqX (W.rq p no) dv0 (G.S (.pcs p no)) (G.S (.snt p no))) := c0
   obtain ⟨da, dc, rfl⟩ := hd0.1.form
   refine j9 49 Tryz.f132 ?_
   have T0 : Sm Nix h h := .refl
   refine q7 (q6 ?_)
   have m87 : ¬ (Gh.mut G) h.next /\ ¬ (Gh.ro G) h.next := ⟨(R.ext T0).op.new (Nat.le_refl _), (R.ext T0).op.newr (Nat.le_refl _)⟩
   refine Q1 [nv (no : Int)] .ptr rfl rfl kr fun h87 c87 t87 n87 => ?_
   have T87 := T0.ext t87
   have N87 := T87.nx
   refine q5 (q7 (u4 kr (D_l (l := [0,1,2,3,4,5,6,7,8,9,10,11,12,13]) kr kr z4 (z2 3 kr (q9 _ rfl rfl kr kr kr ((R.ext T87).wdL.ld (o := 1) kr rfl) (z2 1 kr ?_))))))
   obtain ⟨b1, o1, i1, l1⟩ := (R.ext T87).prsAt (P := Tryz.prog) (T := 61) (el := 64) kr kr kr hp
   refine U0 _ rfl rfl kr kr kr kr (i1) (q9 _ rfl rfl kr kr kr (l1) (z2 2 kr (q9 _ rfl rfl kr kr kr (((R.ext T87).prL hp).ld (o := 1) kr rfl) (z2 1 kr (q9 _ rfl rfl kr kr kr (c87.ld (o := 0) kr rfl) (zy8 _ rfl rfl kr kr kr kr (yz3 (R.ext T87) hp hm) (z2 1 kr (z5 (q7 (q7 (q6 ?_)))))))))))
   refine L_g 3 kr (z9 _ rfl rfl kr ((c0.ext T87).ld (o := 10) kr rfl) (L_i (((W.rq p no).parts : Int)) (0) (.bool false) rfl rfl kr kr rfl (by simp; omega) (q5 (Q2 kr (z6 (q7 (u4 kr (D_e (e := 11) (l := [0,1,2,3,4,5,6,7,8,9,10]) (s' := []) kr kr rfl kr z4 (z2 4 kr (q9 _ rfl rfl kr kr kr (c87.ld (o := 0) kr rfl) (z2 3 kr ?_)))))))))))
   refine q9 _ rfl rfl kr kr kr ((c0.ext T87).ld (o := 12) kr rfl) (z2 2 kr (z5 (L_c rfl rfl kr (E8 (R.ext T87) (x := .body no (W.rq p no).data) ⟨_, hd0.ext T87, rfl⟩ hlw) ?_)))
   rintro v88 h88 N88
   dsimp only at N88
   obtain ⟨S88, C88, ro88, R88, Y88⟩ := N88
   have X88 := ((Gx.refl).trans (Gx.of T87)).trans Y88
   have hr_88 := (Y88.keep _ hr).1
   have m87_88 : ¬ (Gh.mut ⟨Gh.B G, S88, C88, ro88⟩) (h.next) /\ ¬ (Gh.ro ⟨Gh.B G, S88, C88, ro88⟩) (h.next) := ⟨fun hm => (Y88.mu _ hm).elim m87.1 (fun e => by have := c87.lt; omega), fun hm => (Y88.ron _ hm).elim m87.2 (fun e => by have := c87.lt; omega)⟩
   replace c87 := c87.sm Y88.sm m87.1
   have T88 : Sm (Ow h (⟨Gh.B G, S88, C88, ro88⟩ : Gh)) h88 h88 := .refl
   refine q5 ⟨rfl, ?_⟩
   refine D_l (l := []) kr kr z4 (z5 (q6 (L_g 3 kr ?_)))
   obtain ⟨dv9, hd9, c9⟩ := (R88.ow T88).rqL hp hr_88
   replace c9 : Cl h88 (Gh.B (⟨Gh.B G, S88, C88, ro88⟩ : Gh) (.rq p no)) (rqX ((W.setWay p f (W.way p f ++ [Pk.body no (W.rq p no).data])).rq p no) dv9 ((⟨Gh.B G, S88, C88, ro88⟩ : Gh).S (.pcs p no)) ((⟨Gh.B G, S88, C88, ro88⟩ : Gh).S (.snt p no))) := c9
   obtain ⟨h89, e89, d89, t89, n89⟩ := c9.s1 4 9 (.bool true)
   have N89 : Nxt ((W.setWay p f (W.way p f ++ [Pk.body no (W.rq p no).data])).setRq p no { ((W.setWay p f (W.way p f ++ [Pk.body no (W.rq p no).data])).rq p no) with done := true }) (⟨Gh.B G, S88, C88, ro88⟩ : Gh) h88 h89 := (R88.ow T88).stRq hp hr_88 (r := { ((W.setWay p f (W.way p f ++ [Pk.body no (W.rq p no).data])).rq p no) with done := true }) hd9 d89 t89 rfl rfl rfl
   clear hd9
   refine Q3 _ rfl rfl rfl kr kr (e89) ?_
   obtain ⟨S89, C89, ro89, R89, Y89⟩ := N89
   have X89 := ((X88).ow T88).trans Y89
   have hr_89 := (Y89.keep _ hr_88).1
   have m87_88_89 : ¬ (Gh.mut ⟨Gh.B (⟨Gh.B G, S88, C88, ro88⟩ : Gh), S89, C89, ro89⟩) (h.next) /\ ¬ (Gh.ro ⟨Gh.B (⟨Gh.B G, S88, C88, ro88⟩ : Gh), S89, C89, ro89⟩) (h.next) := ⟨fun hm => (Y89.mu _ hm).elim m87_88.1 (fun e => by have := c87.lt; omega), fun hm => (Y89.ron _ hm).elim m87_88.2 (fun e => by have := c87.lt; omega)⟩
   have T89 : Sm (Ow h (⟨Gh.B (⟨Gh.B G, S88, C88, ro88⟩ : Gh), S89, C89, ro89⟩ : Gh)) h89 h89 := .refl
   refine q5 ?_
   repeat with_reducible refine Q9 ?_
   refine z0 (v := .tuple ⟨[]⟩) (.inr rfl) kr ?_
   exact ⟨_, _, _, (R89.ow T89), ((X89).ow T89)⟩
 . cases he
theorem ux3 {W : Wd} {G : Gh} {h : AH} {p no : Nat} {f q : Int} {d : By} {da : Option Addr} {dc : Nat} (R : Rep W G h) (hp : p < W.n) (hm : kget (W.pr p).exps (f, q) = some no) (hd : Dr h G.ro (.slice da (List.map bv d).length dc) d) (hl : d.length < big) (h0 : 0 ≤ (W.rq p no).room) :
  Arm.Calls Tryz.prog 135 [.agg ⟨[nv q, .slice da (List.map bv d).length dc]⟩, ptr (G.B .wd), nv (p : Int), nv f] h (fun r => Nxt ((W.setRq p no ((W.rq p no).gets d)).setPr p { W.pr p with exps := kdel (W.pr p).exps (f, q) }) G h r.2) := by
 obtain ⟨x0, hx0, rfl⟩ := yv9 hm
 have hr := (R.rel.pr p hp).exp x0 hx0
 refine j9 39 Tryz.f135 ?_
 have T0 : Sm Nix h h := .refl
 refine q7 (q6 ?_)
 have m90 : ¬ (Gh.mut G) h.next /\ ¬ (Gh.ro G) h.next := ⟨(R.ext T0).op.new (Nat.le_refl _), (R.ext T0).op.newr (Nat.le_refl _)⟩
 refine Q1 [nv q, .slice da (List.map bv d).length dc] .ptr rfl rfl kr fun h90 c90 t90 n90 => ?_
 have T90 := T0.ext t90
 have N90 := T90.nx
 refine q5 (z1 2 kr (z9 _ rfl rfl kr (c90.ld (o := 0) kr rfl) (L_g 1 kr ?_)))
 have m91 : ¬ (Gh.mut G) h90.next /\ ¬ (Gh.ro G) h90.next := ⟨(R.ext T90).op.new (Nat.le_refl _), (R.ext T90).op.newr (Nat.le_refl _)⟩
 refine Q1 [nv 0, nv 0] .ptr rfl rfl kr fun h91 c91 t91 n91 => ?_
 replace c90 := c90.ext t91
 have T91 := T90.ext t91
 have N91 := T91.nx
 obtain ⟨h92, e92, d92, t92, n92⟩ := c91.sA 184 [nv f, nv q]
 replace c90 := c90.sn t92
 replace c91 := d92
 have T92 := T91.tr t92
 have N92 := T92.nx
 refine Q3 _ rfl rfl rfl kr kr (e92) (q5 (q7 (u4 kr (D_e (e := 14) (l := [0,1,2,3,4,5,6,7,8,9,10,11,12,13]) (s' := []) kr kr rfl kr z4 (z2 3 kr (q9 _ rfl rfl kr kr kr ((R.ext T92).wdL.ld (o := 1) kr rfl) (z2 1 kr ?_)))))))
 obtain ⟨b1, o1, i1, l1⟩ := (R.ext T92).prsAt (P := Tryz.prog) (T := 61) (el := 64) kr kr kr hp
 refine U0 _ rfl rfl kr kr kr kr (i1) (q9 _ rfl rfl kr kr kr (l1) (z2 2 kr (q9 _ rfl rfl kr kr kr (((R.ext T92).prL hp).ld (o := 2) kr rfl) (q9 _ rfl rfl kr kr kr (Cl.allN (n := 2) c91 rfl kr) (zy8 _ rfl rfl kr kr kr kr (xk1 (R.ext T92) hp hm) (z2 1 kr (q9 _ rfl rfl kr kr kr (c90.ld (o := 1) kr rfl) (z5 (L_c rfl rfl kr (yz9 (R.ext T92) hp hr (Dr.ext hd T92) hl h0) ?_)))))))))
 rintro v93 h93 N93
 dsimp only at N93
 obtain ⟨S93, C93, ro93, R93, Y93⟩ := N93
 have X93 := ((Gx.refl).trans (Gx.of T92)).trans Y93
 have m90_93 : ¬ (Gh.mut ⟨Gh.B G, S93, C93, ro93⟩) (h.next) /\ ¬ (Gh.ro ⟨Gh.B G, S93, C93, ro93⟩) (h.next) := ⟨fun hm => (Y93.mu _ hm).elim m90.1 (fun e => by have := c90.lt; omega), fun hm => (Y93.ron _ hm).elim m90.2 (fun e => by have := c90.lt; omega)⟩
 replace c90 := c90.sm Y93.sm m90.1
 have m91_93 : ¬ (Gh.mut ⟨Gh.B G, S93, C93, ro93⟩) (h90.next) /\ ¬ (Gh.ro ⟨Gh.B G, S93, C93, ro93⟩) (h90.next) := ⟨fun hm => (Y93.mu _ hm).elim m91.1 (fun e => by have := c91.lt; omega), fun hm => (Y93.ron _ hm).elim m91.2 (fun e => by have := c91.lt; omega)⟩
 replace c91 := c91.sm Y93.sm m91.1
 have T93 : Sm (Ow h (⟨Gh.B G, S93, C93, ro93⟩ : Gh)) h93 h93 := .refl
 refine q5 ⟨rfl, ?_⟩
 refine D_l (l := []) kr kr z4 (z5 (u4 kr (D_e (e := 11) (l := [0,1,2,3,4,5,6,7,8,9,10]) (s' := []) kr kr rfl kr z4 (z2 3 kr (q9 _ rfl rfl kr kr kr ((R93.ow T93).wdL.ld (o := 1) kr rfl) (z2 1 kr ?_))))))
 obtain ⟨b1, o1, i1, l1⟩ := (R93.ow T93).prsAt (P := Tryz.prog) (T := 61) (el := 64) kr kr kr hp
 refine U0 _ rfl rfl kr kr kr kr (i1) (q9 _ rfl rfl kr kr kr (l1) (z2 2 kr (q9 _ rfl rfl kr kr kr (((R93.ow T93).prL hp).ld (o := 2) kr rfl) (q9 _ rfl rfl kr kr kr (Cl.allN (n := 2) c91 rfl kr) (z5 ?_)))))
 have hE := (R93.ow T93).exs hp
 obtain ⟨h94, e94, mp94, t94, n94⟩ := hE.1.delete (P := Tryz.prog) (T := 66) (el := 100) kr xk5 (f, q)
 have e9 := yk1 (fun k => ptr (Gh.B (⟨Gh.B G, S93, C93, ro93⟩ : Gh) (.rq p k))) (W.pr p).exps (f, q)
 dsimp only at e9
 have mp994 : Mp h94 (Gh.B (⟨Gh.B G, S93, C93, ro93⟩ : Gh) (.exs p)) k2 Eq ((kdel (W.pr p).exps (f, q)).map fun e => (e.1, ptr (Gh.B (⟨Gh.B G, S93, C93, ro93⟩ : Gh) (.rq p e.2)))) := e9 ▸ mp94
 have N94 : Nxt ((W.setRq p x0.2 ((W.rq p x0.2).gets d)).setPr p { W.pr p with exps := kdel (W.pr p).exps (f, q) }) (⟨Gh.B G, S93, C93, ro93⟩ : Gh) h93 h94 := (R93.ow T93).setExs hp (fun x hx => ((R93.ow T93).rel.pr p hp).exp x (yk0 hx)) mp994 (hE.2.delete e94) t94
 refine V9 _ _ rfl rfl kr kr (zz5 e94) ?_
 obtain ⟨S94, C94, ro94, R94, Y94⟩ := N94
 have X94 := ((X93).ow T93).trans Y94
 have m90_93_94 : ¬ (Gh.mut ⟨Gh.B (⟨Gh.B G, S93, C93, ro93⟩ : Gh), S94, C94, ro94⟩) (h.next) /\ ¬ (Gh.ro ⟨Gh.B (⟨Gh.B G, S93, C93, ro93⟩ : Gh), S94, C94, ro94⟩) (h.next) := ⟨fun hm => (Y94.mu _ hm).elim m90_93.1 (fun e => by have := c90.lt; omega), fun hm => (Y94.ron _ hm).elim m90_93.2 (fun e => by have := c90.lt; omega)⟩
 have m91_93_94 : ¬ (Gh.mut ⟨Gh.B (⟨Gh.B G, S93, C93, ro93⟩ : Gh), S94, C94, ro94⟩) (h90.next) /\ ¬ (Gh.ro ⟨Gh.B (⟨Gh.B G, S93, C93, ro93⟩ : Gh), S94, C94, ro94⟩) (h90.next) := ⟨fun hm => (Y94.mu _ hm).elim m91_93.1 (fun e => by have := c91.lt; omega), fun hm => (Y94.ron _ hm).elim m91_93.2 (fun e => by have := c91.lt; omega)⟩
 have T94 : Sm (Ow h (⟨Gh.B (⟨Gh.B G, S93, C93, ro93⟩ : Gh), S94, C94, ro94⟩ : Gh)) h94 h94 := .refl
 refine q5 ⟨rfl, ?_⟩
 refine D_l (l := []) kr kr z4 (z5 ?_)
 repeat with_reducible refine Q9 ?_
 refine z0 (v := .tuple ⟨[]⟩) (.inr rfl) kr ?_
 exact ⟨_, _, _, (R94.ow T94), ((X94).ow T94)⟩
end
end Go.Proofs.YtjealfplbigphaaGreat
namespace Go.Proofs.YtjealfplbigphaaGreat
noncomputable section
open Go Go.X Go.Arm Go.Mt
theorem _root_.Go.Arm.Ls.set1 {α : Type} {R : α -> List Value -> Prop} {x : α} {v : Value} : ∀ {l : List α} {cs : List Value} {i : Nat}, Ls R 1 l cs -> R x [v] -> Ls R 1 (l.set i x) (cs.set i v) := fun {l cs i} H hx => by
 induction H generalizing i with
 | nil => exact .nil
 | cons h1 h2 t ih =>
  obtain ⟨u, hu⟩ := List.length_eq_one_iff.1 h2
  subst hu
  cases i with
  | zero => exact .cons hx rfl t
  | succ i => exact .cons h1 rfl ih
set_option maxHeartbeats 1000000 in
theorem ux2 {W : Wd} {G : Gh} {h : AH} {p : Nat} {f q i : Int} {d : By} {ad : Addr} {nd cd : Nat} {W' : Wd} (R : Rep W G h) (hp : p < W.n) (hd : Dr h G.ro (.slice (some ad) nd cd) d) (he : W.handle p f (.part q i d) = some W') :
   Arm.Calls Tryz.prog 136 [.agg ⟨[nv q, nv i, .slice (some ad) nd cd]⟩, ptr (G.B .wd), nv (p : Int), nv f] h (fun r => Nxt W' G h r.2) := by
 unfold Wd.handle at he
 dsimp only at he
 split at he
 rotate_right
 . cases he
 rename_i no hkx
 split at he
 rotate_right
 . cases he
 rename_i hcn
 obtain ⟨hi0, hil, hNb, hCb, hrm⟩ := hcn
 obtain ⟨k, rfl⟩ : ∃ k : Nat, i = (k : Int) := ⟨i.toNat, by omega⟩
 simp only [Int.toNat_natCast] at he hil hCb
 obtain ⟨x0, hx0, hxe⟩ := yv9 hkx
 have hr : G.C (.rq p no) ≠ .no := by rw [<- hxe]; exact (R.rel.pr p hp).exp x0 hx0
 obtain ⟨dv0, hd0, c0⟩ := R.rqL hp hr
 replace c0 : Arm.Cl h (G.B (.rq p no)) (rqX (W.rq p no) dv0 (G.S (.pcs p no)) (G.S (.snt p no))) := c0
 refine j9 58 Tryz.f136 ?_
 have T0 : Sm Nix h h := .refl
 refine q7 (q6 ?_)
 have m259 : ¬ (Gh.mut G) h.next /\ ¬ (Gh.ro G) h.next := ⟨(R.ext T0).op.new (Nat.le_refl _), (R.ext T0).op.newr (Nat.le_refl _)⟩
 refine Q1 [nv q, nv (k : Int), .slice (some ad) nd cd] .ptr rfl rfl kr fun h259 c259 t259 n259 => ?_
 have T259 := T0.ext t259
 have N259 := T259.nx
 refine q5 (z1 2 kr (z9 _ rfl rfl kr (c259.ld (o := 0) kr rfl) (L_g 1 kr ?_)))
 have m260 : ¬ (Gh.mut G) h259.next /\ ¬ (Gh.ro G) h259.next := ⟨(R.ext T259).op.new (Nat.le_refl _), (R.ext T259).op.newr (Nat.le_refl _)⟩
 refine Q1 [nv 0, nv 0] .ptr rfl rfl kr fun h260 c260 t260 n260 => ?_
 replace c259 := c259.ext t260
 have T260 := T259.ext t260
 have N260 := T260.nx
 obtain ⟨h261, e261, d261, t261, n261⟩ := c260.sA 184 [nv f, nv q]
 replace c259 := c259.sn t261
 replace c260 := d261
 have T261 := T260.tr t261
 have N261 := T261.nx
 refine Q3 _ rfl rfl rfl kr kr (e261) (q5 (q7 (u4 kr (D_l (l := [0,1,2,3,4,5,6,7,8,9,10,11,12]) kr kr z4 (z2 3 kr (q9 _ rfl rfl kr kr kr ((R.ext T261).wdL.ld (o := 1) kr rfl) (z2 1 kr ?_)))))))
 obtain ⟨b1, o1, i1, l1⟩ := (R.ext T261).prsAt (P := Tryz.prog) (T := 61) (el := 64) kr kr kr hp
 refine U0 _ rfl rfl kr kr kr kr (i1) (q9 _ rfl rfl kr kr kr (l1) (z2 2 kr (q9 _ rfl rfl kr kr kr (((R.ext T261).prL hp).ld (o := 2) kr rfl) (q9 _ rfl rfl kr kr kr (Cl.allN (n := 2) c260 rfl kr) (zy8 _ rfl rfl kr kr kr kr (xk1 (R.ext T261) hp hkx) (z2 1 kr (z5 (q7 (u4 kr (D_e (e := 9) (l := [0,1,2,3,4,5,6,7,8]) (s' := []) kr kr rfl kr z4 (z2 3 kr ?_)))))))))))
 refine q9 _ rfl rfl kr kr kr ((c0.ext T261).ld (o := 13) kr rfl) (z2 1 kr (q9 _ rfl rfl kr kr kr (c259.ld (o := 1) kr rfl) (z2 1 kr (q9 _ rfl rfl kr kr kr (c259.ld (o := 2) kr rfl) ?_))))
 obtain ⟨cs0, A0, L0, hC0⟩ := (R.ext T261).pcs (p := p) (no := no) hp hr
 obtain ⟨pa, xa, i1, i2, i3, i4, i5⟩ := (A0).elem (P := Tryz.prog) (T := 92) (el := 23) kr kr kr hil .i64
 refine U0 _ rfl rfl kr kr kr kr (i1) (z5 ?_)
 obtain ⟨h262, e262, w262, t262, n262⟩ := i5 (.slice (some ad) nd cd) rfl rfl
 have N262 : Nxt (W.setRq p no (Wd.pget (W.rq p no) k d)) G h261 h262 := by
   have hDr := (R.ext T261).op.dr (t262.mono fun c hc => ⟨.pcs p no, hC0, J4 hc⟩)
   have := (R.ext T261).setPcs (p := p) (no := no) hp hr (l := (W.rq p no).pcs.set k (some d)) (cs := cs0.set k (.slice (some ad) nd cd)) ((L0.mono (fun _ _ z => z.mono hDr)).set1 ⟨_, rfl, hDr _ _ (hd.ext T261), _, _, _, rfl⟩) (by rw [List.length_set]; exact w262) t262
   exact this
 refine Q3 _ rfl rfl rfl kr kr (e262) ?_
 obtain ⟨S262, C262, ro262, R262, Y262⟩ := N262
 have X262 := ((Gx.refl).trans (Gx.of T261)).trans Y262
 have hr_262 := (Y262.keep _ hr).1
 have m259_262 : ¬ (Gh.mut ⟨Gh.B G, S262, C262, ro262⟩) (h.next) /\ ¬ (Gh.ro ⟨Gh.B G, S262, C262, ro262⟩) (h.next) := ⟨fun hm => (Y262.mu _ hm).elim m259.1 (fun e => by have := c259.lt; omega), fun hm => (Y262.ron _ hm).elim m259.2 (fun e => by have := c259.lt; omega)⟩
 have m260_262 : ¬ (Gh.mut ⟨Gh.B G, S262, C262, ro262⟩) (h259.next) /\ ¬ (Gh.ro ⟨Gh.B G, S262, C262, ro262⟩) (h259.next) := ⟨fun hm => (Y262.mu _ hm).elim m260.1 (fun e => by have := c260.lt; omega), fun hm => (Y262.ron _ hm).elim m260.2 (fun e => by have := c260.lt; omega)⟩
 replace c260 := c260.sm Y262.sm m260.1
 have T262 : Sm (Ow h (⟨Gh.B G, S262, C262, ro262⟩ : Gh)) h262 h262 := .refl
 obtain ⟨dvz, hdz, cz⟩ := R262.rqL (p := p) hp hr_262
 rw [Wd.setRq_at] at hdz cz
 replace cz : Arm.Cl h262 (G.B (.rq p no)) (rqX (W.rq p no) dvz ((⟨G.B, S262, C262, ro262⟩ : Gh).S (.pcs p no)) ((⟨G.B, S262, C262, ro262⟩ : Gh).S (.snt p no))) := cz
 refine q5 ⟨rfl, ?_⟩
 refine D_l (l := []) kr kr z4 (z5 (q7 (q7 ?_)))
 by_cases hany : (Wd.pget (W.rq p no) k d).pcs.any Option.isNone = true
 ·
   rw [if_pos hany] at he
   obtain rfl := Option.some.inj he
   refine Z3 3 kr (z9 _ rfl rfl kr ((cz.sm T262 (fun hx => hx.2.1 ⟨.rq p no, hr_262, rfl⟩)).ld (o := 13) kr rfl) (L_c rfl rfl kr (yv0 (p := p) (no := no) (R262.ow T262) hp hr_262 (by rw [Wd.setRq_at]; show (List.set _ _ _).length < _; rw [List.length_set]; exact hNb)) ?_))
   rintro v263 h263 ⟨e263, t263⟩
   try dsimp only at t263
   dsimp only at e263
   rw [Wd.setRq_at, hany] at e263
   subst e263
   have T263 : Sm (Ow h (⟨Gh.B G, S262, C262, ro262⟩ : Gh)) h262 h263 := T262.ext t263
   have N263 := T263.nx
   have M263 := t263.nx
   refine q5 (U7 kr (j7 ?_))
   refine rr ?_
   refine z0 (v := .tuple ⟨[]⟩) (.inl rfl) kr ?_
   exact ⟨_, _, _, (R262.ow T263), ((X262).ow T263)⟩
 ·
   rw [if_neg hany] at he
   obtain rfl := Option.some.inj he
   refine Z3 3 kr (z9 _ rfl rfl kr ((cz.sm T262 (fun hx => hx.2.1 ⟨.rq p no, hr_262, rfl⟩)).ld (o := 13) kr rfl) (L_c rfl rfl kr (yv0 (p := p) (no := no) (R262.ow T262) hp hr_262 (by rw [Wd.setRq_at]; show (List.set _ _ _).length < _; rw [List.length_set]; exact hNb)) ?_))
   rintro v264 h264 ⟨e264, t264⟩
   try dsimp only at t264
   dsimp only at e264
   rw [Wd.setRq_at, Bool.eq_false_iff.2 hany] at e264
   subst e264
   replace c260 := c260.ext t264
   have T264 : Sm (Ow h (⟨Gh.B G, S262, C262, ro262⟩ : Gh)) h262 h264 := T262.ext t264
   have N264 := T264.nx
   have M264 := t264.nx
   refine q5 (Q2 kr (z6 (z1 4 kr (z9 _ rfl rfl kr ((cz.sm T264 (fun hx => hx.2.1 ⟨.rq p no, hr_262, rfl⟩)).ld (o := 13) kr rfl) ?_))))
   obtain ⟨cs8, A8, L8, hC8⟩ := (R262.ow T264).pcs (p := p) (no := no) hp hr_262
   refine L_c rfl rfl kr (jj9 A8.sd (by rw [Wd.setRq_at]; show (List.set _ _ _).length < _; rw [List.length_set]; exact hNb) (by rw [Wd.setRq_at]; exact hCb) (fun i x hx => by
    obtain ⟨c, ⟨v, rfl, hv⟩, _, hcc⟩ := L8.get hx
    have h9 := hcc 0 (by decide)
    rw [Nat.mul_one, Nat.add_zero] at h9
    cases x with
    | none =>
     have : (Wd.pget (W.rq p no) k d).pcs.any Option.isNone = true := List.any_eq_true.2 ⟨none, List.mem_of_getElem? (by rw [Wd.setRq_at] at hx; exact hx), rfl⟩
     exact (hany this).elim
    | some d9 => exact ⟨v, d9, rfl, h9, hv.1.1⟩)) ?_
   rintro v265 h265 ⟨r265, t265, f265⟩
   dsimp only at r265 t265 f265
   rw [Wd.setRq_at] at r265
   obtain ⟨R265, X265⟩ := (R262.ow T264).more (Q := fun b => vb v265 = some b) t265 (fun b hb => (f265 b hb).1) (fun b hb => (f265 b hb).2)
   obtain ⟨va265, vc265, ev265⟩ := r265.form
   subst ev265
   have hdv : Dr h265 ((Gh.more (⟨Gh.B G, S262, C262, ro262⟩ : Gh) (fun b => vb (Value.slice va265 (List.map bv (Wd.catD (Wd.pget (W.rq p no) k d).pcs)).length vc265) = some b))).ro (.slice va265 (List.map bv (Wd.catD (Wd.pget (W.rq p no) k d).pcs)).length vc265) (Wd.catD (Wd.pget (W.rq p no) k d).pcs) := ⟨r265, fun b hb => .inr hb⟩
   have mZ8 : ¬ (Gh.mut (Gh.more (⟨Gh.B G, S262, C262, ro262⟩ : Gh) (fun b => vb (Value.slice va265 (List.map bv (Wd.catD (Wd.pget (W.rq p no) k d).pcs)).length vc265) = some b))) (h259.next) /\ ¬ (Gh.ro (Gh.more (⟨Gh.B G, S262, C262, ro262⟩ : Gh) (fun b => vb (Value.slice va265 (List.map bv (Wd.catD (Wd.pget (W.rq p no) k d).pcs)).length vc265) = some b))) (h259.next) := ⟨fun hm => by obtain ⟨r, q1, q2⟩ := hm; rw [qw3] at q2; exact m260_262.1 ⟨r, q1, q2⟩, fun hm => hm.elim m260_262.2 (fun e => by have := (f265 _ e).1; have := c260.lt; omega)⟩
   have hrM : Gh.C (Gh.more (⟨Gh.B G, S262, C262, ro262⟩ : Gh) (fun b => vb (Value.slice va265 (List.map bv (Wd.catD (Wd.pget (W.rq p no) k d).pcs)).length vc265) = some b)) (.rq p no) ≠ .no := hr_262
   have X265x := (((X262).ow T264)).trans X265
   replace c260 := c260.ext t265
   have T265 : Sm Nix h265 h265 := .refl
   refine L_c rfl rfl kr (yz9 (R265.ext T265) hp hrM (Dr.ext hdv T265) hCb (by rw [Wd.setRq_at]; exact hrm)) ?_
   rintro v266 h266 N266
   dsimp only at N266
   obtain ⟨S266, C266, ro266, R266, Y266⟩ := N266
   have X266 := ((X265x).trans (Gx.of T265)).trans Y266
   have hr_266 := (Y266.keep _ hrM).1
   have mZ8_266 : ¬ (Gh.mut ⟨Gh.B (Gh.more (⟨Gh.B G, S262, C262, ro262⟩ : Gh) (fun b => vb (Value.slice va265 (List.map bv (Wd.catD (Wd.pget (W.rq p no) k d).pcs)).length vc265) = some b)), S266, C266, ro266⟩) (h259.next) /\ ¬ (Gh.ro ⟨Gh.B (Gh.more (⟨Gh.B G, S262, C262, ro262⟩ : Gh) (fun b => vb (Value.slice va265 (List.map bv (Wd.catD (Wd.pget (W.rq p no) k d).pcs)).length vc265) = some b)), S266, C266, ro266⟩) (h259.next) := ⟨fun hm => (Y266.mu _ hm).elim mZ8.1 (fun e => by have := c260.lt; omega), fun hm => (Y266.ron _ hm).elim mZ8.2 (fun e => by have := c260.lt; omega)⟩
   replace c260 := c260.sm Y266.sm mZ8.1
   have T266 : Sm (Ow h (⟨Gh.B (Gh.more (⟨Gh.B G, S262, C262, ro262⟩ : Gh) (fun b => vb (Value.slice va265 (List.map bv (Wd.catD (Wd.pget (W.rq p no) k d).pcs)).length vc265) = some b)), S266, C266, ro266⟩ : Gh)) h266 h266 := .refl
   have eW9 : ((W.setRq p no (Wd.pget (W.rq p no) k d)).setRq p no (((W.setRq p no (Wd.pget (W.rq p no) k d)).rq p no).gets (Wd.catD (Wd.pget (W.rq p no) k d).pcs))) = W.setRq p no ((Wd.pget (W.rq p no) k d).gets (Wd.catD (Wd.pget (W.rq p no) k d).pcs)) := by simp only [Wd.setRq_at, Wd.setRq_setRq]
   rw [eW9] at R266
   refine q5 (u4 kr (D_e (e := 11) (l := [0,1,2,3,4,5,6,7,8,9,10]) (s' := []) kr kr rfl kr z4 (z2 3 kr (q9 _ rfl rfl kr kr kr ((R266.ow T266).wdL.ld (o := 1) kr rfl) (z2 1 kr ?_)))))
   obtain ⟨b1, o1, i1, l1⟩ := (R266.ow T266).prsAt (P := Tryz.prog) (T := 61) (el := 64) kr kr kr hp
   refine U0 _ rfl rfl kr kr kr kr (i1) (q9 _ rfl rfl kr kr kr (l1) (z2 2 kr (q9 _ rfl rfl kr kr kr (((R266.ow T266).prL hp).ld (o := 2) kr rfl) (q9 _ rfl rfl kr kr kr (Cl.allN (n := 2) c260 rfl kr) (z5 ?_)))))
   have hE := (R266.ow T266).exs (p := p) hp
   obtain ⟨h267, e267, mp267, t267, n267⟩ := hE.1.delete (P := Tryz.prog) (T := 66) (el := 100) kr xk5 (f, q)
   have e9 := yk1 (fun k => ptr (Gh.B (⟨Gh.B (Gh.more (⟨Gh.B G, S262, C262, ro262⟩ : Gh) (fun b => vb (Value.slice va265 (List.map bv (Wd.catD (Wd.pget (W.rq p no) k d).pcs)).length vc265) = some b)), S266, C266, ro266⟩ : Gh) (.rq p k))) (W.pr p).exps (f, q)
   dsimp only at e9
   have mp9267 : Mp h267 (Gh.B (⟨Gh.B (Gh.more (⟨Gh.B G, S262, C262, ro262⟩ : Gh) (fun b => vb (Value.slice va265 (List.map bv (Wd.catD (Wd.pget (W.rq p no) k d).pcs)).length vc265) = some b)), S266, C266, ro266⟩ : Gh) (.exs p)) k2 Eq ((kdel (W.pr p).exps (f, q)).map fun e => (e.1, ptr (Gh.B (⟨Gh.B (Gh.more (⟨Gh.B G, S262, C262, ro262⟩ : Gh) (fun b => vb (Value.slice va265 (List.map bv (Wd.catD (Wd.pget (W.rq p no) k d).pcs)).length vc265) = some b)), S266, C266, ro266⟩ : Gh) (.rq p e.2)))) := e9 ▸ mp267
   have N267 : Nxt ((W.setRq p no ((Wd.pget (W.rq p no) k d).gets (Wd.catD (Wd.pget (W.rq p no) k d).pcs))).setPr p { W.pr p with exps := kdel (W.pr p).exps (f, q) }) (⟨Gh.B (Gh.more (⟨Gh.B G, S262, C262, ro262⟩ : Gh) (fun b => vb (Value.slice va265 (List.map bv (Wd.catD (Wd.pget (W.rq p no) k d).pcs)).length vc265) = some b)), S266, C266, ro266⟩ : Gh) h266 h267 := (R266.ow T266).setExs (p := p) hp (fun x hx => ((R266.ow T266).rel.pr p hp).exp x (yk0 hx)) mp9267 (hE.2.delete e267) t267
   refine V9 _ _ rfl rfl kr kr (zz5 e267) ?_
   obtain ⟨S267, C267, ro267, R267, Y267⟩ := N267
   have X267 := ((X266).ow T266).trans Y267
   have hr_267 := (Y267.keep _ hr_266).1
   have mZ8_266_267 : ¬ (Gh.mut ⟨Gh.B (⟨Gh.B (Gh.more (⟨Gh.B G, S262, C262, ro262⟩ : Gh) (fun b => vb (Value.slice va265 (List.map bv (Wd.catD (Wd.pget (W.rq p no) k d).pcs)).length vc265) = some b)), S266, C266, ro266⟩ : Gh), S267, C267, ro267⟩) (h259.next) /\ ¬ (Gh.ro ⟨Gh.B (⟨Gh.B (Gh.more (⟨Gh.B G, S262, C262, ro262⟩ : Gh) (fun b => vb (Value.slice va265 (List.map bv (Wd.catD (Wd.pget (W.rq p no) k d).pcs)).length vc265) = some b)), S266, C266, ro266⟩ : Gh), S267, C267, ro267⟩) (h259.next) := ⟨fun hm => (Y267.mu _ hm).elim mZ8_266.1 (fun e => by have := c260.lt; omega), fun hm => (Y267.ron _ hm).elim mZ8_266.2 (fun e => by have := c260.lt; omega)⟩
   have T267 : Sm (Ow h (⟨Gh.B (⟨Gh.B (Gh.more (⟨Gh.B G, S262, C262, ro262⟩ : Gh) (fun b => vb (Value.slice va265 (List.map bv (Wd.catD (Wd.pget (W.rq p no) k d).pcs)).length vc265) = some b)), S266, C266, ro266⟩ : Gh), S267, C267, ro267⟩ : Gh)) h267 h267 := .refl
   refine q5 ⟨rfl, ?_⟩
   refine D_l (l := []) kr kr z4 (z5 ?_)
   repeat with_reducible refine Q9 ?_
   refine z0 (v := .tuple ⟨[]⟩) (.inr rfl) kr ?_
   exact ⟨_, _, _, (R267.ow T267), ((X267).ow T267)⟩
end
end Go.Proofs.YtjealfplbigphaaGreat
namespace Go.Proofs.YtjealfplbigphaaGreat
noncomputable section
open Go Go.X Go.Arm Go.Mt
theorem xx5 {W : Wd} {G : Gh} {h : AH} {p no : Nat} {f : Int} {W' : Wd} (R : Rep W G h) (hp : p < W.n) (hm : no ∈ (W.pr p).reqs) (h0 : (W.rq p no).parts ≠ 0) (he : (W.setRq p no { W.rq p no with clr := true }).sparts p no = some W') :
  Arm.Calls Tryz.prog 132 [.agg ⟨[nv (no : Int)]⟩, ptr (G.B .wd), nv (p : Int), nv f] h (fun r => Nxt W' G h r.2) := by
 have hr := (R.rel.pr p hp).rqp no hm
 obtain ⟨dv0, hd0, c0⟩ := R.rqL hp hr
 replace c0 : Arm.Cl h (G.B (.rq p no)) (rqX (W.rq p no) dv0 (G.S (.pcs p no)) (G.S (.snt p no))) := c0
 refine j9 49 Tryz.f132 ?_
 have T0 : Sm Nix h h := .refl
 refine q7 (q6 ?_)
 have m268 : ¬ (Gh.mut G) h.next /\ ¬ (Gh.ro G) h.next := ⟨(R.ext T0).op.new (Nat.le_refl _), (R.ext T0).op.newr (Nat.le_refl _)⟩
 refine Q1 [nv (no : Int)] .ptr rfl rfl kr fun h268 c268 t268 n268 => ?_
 have T268 := T0.ext t268
 have N268 := T268.nx
 refine q5 (q7 (u4 kr (D_l (l := [0,1,2,3,4,5,6,7,8,9,10,11,12,13]) kr kr z4 (z2 3 kr (q9 _ rfl rfl kr kr kr ((R.ext T268).wdL.ld (o := 1) kr rfl) (z2 1 kr ?_))))))
 obtain ⟨b1, o1, i1, l1⟩ := (R.ext T268).prsAt (P := Tryz.prog) (T := 61) (el := 64) kr kr kr hp
 refine U0 _ rfl rfl kr kr kr kr (i1) (q9 _ rfl rfl kr kr kr (l1) (z2 2 kr (q9 _ rfl rfl kr kr kr (((R.ext T268).prL hp).ld (o := 1) kr rfl) (z2 1 kr (q9 _ rfl rfl kr kr kr (c268.ld (o := 0) kr rfl) (zy8 _ rfl rfl kr kr kr kr (yz3 (R.ext T268) hp hm) (z2 1 kr (z5 (q7 (q7 (q6 ?_)))))))))))
 refine L_g 3 kr (z9 _ rfl rfl kr ((c0.ext T268).ld (o := 10) kr rfl) (L_i (((W.rq p no).parts : Int)) (0) (.bool true) rfl rfl kr kr rfl (congrArg Value.bool (decide_eq_true (by omega))) (q5 (U7 kr (q7 (q6 (L_g 3 kr ?_)))))))
 obtain ⟨dv9, hd9, c9⟩ := (R.ext T268).rqL hp hr
 replace c9 : Cl h268 (Gh.B G (.rq p no)) (rqX (W.rq p no) dv9 (G.S (.pcs p no)) (G.S (.snt p no))) := c9
 obtain ⟨h269, e269, d269, t269, n269⟩ := c9.s1 4 16 (.bool true)
 have N269 : Nxt (W.setRq p no { (W.rq p no) with clr := true }) G h268 h269 := (R.ext T268).stRq hp hr (r := { (W.rq p no) with clr := true }) hd9 d269 t269 rfl rfl rfl
 clear hd9
 refine Q3 _ rfl rfl rfl kr kr (e269) ?_
 obtain ⟨S269, C269, ro269, R269, Y269⟩ := N269
 have X269 := ((Gx.refl).trans (Gx.of T268)).trans Y269
 have hr_269 := (Y269.keep _ hr).1
 have m268_269 : ¬ (Gh.mut ⟨Gh.B G, S269, C269, ro269⟩) (h.next) /\ ¬ (Gh.ro ⟨Gh.B G, S269, C269, ro269⟩) (h.next) := ⟨fun hm => (Y269.mu _ hm).elim m268.1 (fun e => by have := c268.lt; omega), fun hm => (Y269.ron _ hm).elim m268.2 (fun e => by have := c268.lt; omega)⟩
 replace c268 := c268.sm Y269.sm m268.1
 have T269 : Sm (Ow h (⟨Gh.B G, S269, C269, ro269⟩ : Gh)) h269 h269 := .refl
 refine q5 (z1 3 kr (L_c rfl rfl kr (jq5 (R269.ow T269) hp hr_269 he) ?_))
 rintro v270 h270 N270
 dsimp only at N270
 obtain ⟨S270, C270, ro270, R270, Y270⟩ := N270
 have X270 := ((X269).ow T269).trans Y270
 have hr_270 := (Y270.keep _ hr_269).1
 have m268_269_270 : ¬ (Gh.mut ⟨Gh.B (⟨Gh.B G, S269, C269, ro269⟩ : Gh), S270, C270, ro270⟩) (h.next) /\ ¬ (Gh.ro ⟨Gh.B (⟨Gh.B G, S269, C269, ro269⟩ : Gh), S270, C270, ro270⟩) (h.next) := ⟨fun hm => (Y270.mu _ hm).elim m268_269.1 (fun e => by have := c268.lt; omega), fun hm => (Y270.ron _ hm).elim m268_269.2 (fun e => by have := c268.lt; omega)⟩
 have T270 : Sm (Ow h (⟨Gh.B (⟨Gh.B G, S269, C269, ro269⟩ : Gh), S270, C270, ro270⟩ : Gh)) h270 h270 := .refl
 refine q5 (j7 ?_)
 refine rr ?_
 refine z0 (v := .tuple ⟨[]⟩) (.inl rfl) kr ?_
 exact ⟨_, _, _, (R270.ow T270), ((X270).ow T270)⟩
theorem Qx2 {W : Wd} {G : Gh} {h : AH} {p : Nat} {f q : Int} {W' : Wd} (R : Rep W G h) (hp : p < W.n) (he : W.handle p f (.clear q) = some W') :
   Arm.Calls Tryz.prog 132 [.agg ⟨[nv q]⟩, ptr (G.B .wd), nv (p : Int), nv f] h (fun r => Nxt W' G h r.2) := by
 unfold Wd.handle at he
 dsimp only at he
 split at he
 rotate_right
 . cases he
 rename_i hcr
 obtain ⟨i, rfl⟩ : ∃ i : Nat, q = (i : Int) := ⟨q.toNat, by omega⟩
 simp only [Int.toNat_natCast] at he hcr
 split at he
 . rename_i hcp
   rw [Option.map_eq_some_iff] at he
   obtain ⟨W2, hw2, rfl⟩ := he
   exact jj0 R hp hcr.2 hcp hw2
 . rename_i hcp
   exact xx5 R hp hcr.2 hcp he
end
end Go.Proofs.YtjealfplbigphaaGreat
