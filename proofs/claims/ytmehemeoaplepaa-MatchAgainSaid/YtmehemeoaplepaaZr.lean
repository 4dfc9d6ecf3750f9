/- Worlds of the program and walks of its functions. -/
import Derived.Test.YtmehemeoaplepaaZj
import Derived.Test.YtmehemeoaplepaaZq
namespace Go.Mt
open Go.Arm
namespace Wd
def mv (w : Wd) (a b j : Nat) : Wd := (w.setWay a b ((w.way a b).drop j)).setPr b { w.pr b with inb := (w.pr b).inb ++ ((w.way a b).take j).map fun x => ((a : Int), x) }
theorem setWay_at (w : Wd) (a b : Int) (l : List Pk) : (w.setWay a b l).way a b = l := by
 show ups w.way a (ups (w.way a) b l) a b = l
 rw [ups_at, ups_at]
theorem setWay_setWay (w : Wd) (a b : Int) (l m : List Pk) : (w.setWay a b l).setWay a b m = w.setWay a b m := by
 unfold setWay
 congr 1
 funext q
 by_cases e : q = a
 · subst e
   funext k
   by_cases e2 : k = b
   · subst e2; simp [ups]
   · simp [ups, e2]
 · simp [ups, e]
theorem setPr_setPr (w : Wd) (p : Nat) (x y : Pr) : (w.setPr p x).setPr p y = w.setPr p y := by
 unfold setPr
 congr 1
 funext q
 by_cases e : q = p
 · subst e; simp [ups]
 · simp [ups, e]
theorem setPr_same (w : Wd) (p : Nat) : w.setPr p (w.pr p) = w := by
 unfold setPr; rw [ups_id]
theorem setWay_same (w : Wd) (a b : Int) : w.setWay a b (w.way a b) = w := by
 unfold setWay; rw [ups_id, ups_id]
theorem mv_0 (w : Wd) (a b : Nat) : w.mv a b 0 = w := by
 unfold mv
 rw [List.drop_zero, List.take_zero, List.map_nil, List.append_nil, setWay_same]
 exact setPr_same w b
theorem mv_way (w : Wd) (a b j : Nat) : (w.mv a b j).way a b = (w.way a b).drop j := setWay_at _ _ _ _
theorem mv_inb (w : Wd) (a b j : Nat) : ((w.mv a b j).pr b).inb = (w.pr b).inb ++ ((w.way a b).take j).map fun x => ((a : Int), x) := by
 unfold mv; rw [setPr_at]
theorem mv_s (w : Wd) (a b j : Nat) {x : Pk} {l : List Pk} (h : (w.way a b).drop j = x :: l) : (((w.mv a b j).setWay a b l).setPr b { (w.mv a b j).pr b with inb := ((w.mv a b j).pr b).inb ++ [((a : Int), x)] }) = w.mv a b (j + 1) := by
 have hd : (w.way a b).drop (j + 1) = l := by rw [← List.drop_drop, h]; rfl
 have ht : (w.way a b).take (j + 1) = (w.way a b).take j ++ [x] := by
  have hj : (w.way a b)[j]? = some x := by
   have := congrArg (fun l => l[0]?) h
   simpa using this
  rw [List.take_add_one, hj]; rfl
 rw [mv_inb]
 unfold mv
 rw [setPr_at, hd, ht, List.map_append, ← List.append_assoc]
 show (((w.setWay a b _).setPr b _).setWay a b l).setPr b _ = _
 have : ∀ (m : List Pk) (y : Pr), ((w.setWay a b m).setPr b y).setWay a b l = (w.setWay a b l).setPr b y := fun m y => by
  show ((w.setWay a b m).setWay a b l).setPr b y = _
  rw [setWay_setWay]
 rw [this, setPr_setPr]
 rfl
def delAll (w : Wd) (a b : Nat) : Option Wd := if (w.way a b).length < 200 ∧ (w.pr b).inb.length + 200 < big then some (w.mv a b (w.way a b).length) else none
def rowD (a : Nat) : Nat → Nat → Wd → Option Wd
 | _, 0, w => some w
 | b, m + 1, w => (w.delAll a b).bind (rowD a (b + 1) m)
def allD (n : Nat) : Nat → Nat → Wd → Option Wd
 | _, 0, w => some w
 | a, m + 1, w => (rowD a 0 n w).bind (allD n (a + 1) m)
def callsD : Nat → Nat → Wd → Option Wd
 | _, 0, w => some w
 | p, m + 1, w => (w.call p).bind (callsD (p + 1) m)
def rnd (w : Wd) : Option Wd := (allD w.n 0 w.n w).bind (callsD 0 w.n)
inductive Settles : Nat → Wd → Wd → Prop
 | last {w w1 : Wd} (h : w.rnd = some w1) (q : w1.quiet) : Settles 0 w w1
 | more {k : Nat} {w w1 w2 : Wd} (h : w.rnd = some w1) (q : ¬ w1.quiet) (t : Settles k w1 w2) : Settles (k + 1) w w2
theorem Settles.step {k : Nat} {w w' : Wd} (h : Settles k w w') : ∃ w1, w.rnd = some w1 ∧ ((w1.quiet ∧ w1 = w') ∨ (¬ w1.quiet ∧ ∃ k', k = k' + 1 ∧ Settles k' w1 w')) := by
 cases h with
 | last h q => exact ⟨_, h, .inl ⟨q, rfl⟩⟩
 | more h q t => exact ⟨_, h, .inr ⟨q, _, rfl, t⟩⟩
theorem delAll_n {w w' : Wd} {a b : Nat} (h : w.delAll a b = some w') : w'.n = w.n := by
 unfold delAll at h
 split at h
 · cases h; rfl
 · cases h
theorem rowD_n {a : Nat} : ∀ {m b : Nat} {w w' : Wd}, rowD a b m w = some w' → w'.n = w.n
 | 0, b, w, w', h => by cases h; rfl
 | m + 1, b, w, w', h => by
  obtain ⟨w1, h1, h2⟩ := Option.bind_eq_some_iff.1 h
  rw [rowD_n h2, delAll_n h1]
theorem allD_n {n : Nat} : ∀ {m a : Nat} {w w' : Wd}, allD n a m w = some w' → w'.n = w.n
 | 0, a, w, w', h => by cases h; rfl
 | m + 1, a, w, w', h => by
  obtain ⟨w1, h1, h2⟩ := Option.bind_eq_some_iff.1 h
  rw [allD_n h2, rowD_n h1]
theorem callsD_n : ∀ {m p : Nat} {w w' : Wd}, callsD p m w = some w' → w'.n = w.n
 | 0, p, w, w', h => by cases h; rfl
 | m + 1, p, w, w', h => by
  obtain ⟨w1, h1, h2⟩ := Option.bind_eq_some_iff.1 h
  rw [callsD_n h2, call_n h1]
theorem rnd_n {w w' : Wd} (h : w.rnd = some w') : w'.n = w.n := by
 obtain ⟨w1, h1, h2⟩ := Option.bind_eq_some_iff.1 h
 rw [callsD_n h2, allD_n h1]
end Wd
end Go.Mt
namespace Go.Proofs.Ytmehemeoaplepaa
noncomputable section
open Go Go.X Go.Arm Go.Mt
set_option maxHeartbeats 2000000 in
theorem settle_ok {W : Wd} {G : Gh} {h : AH} {k : Nat} {W' : Wd} (R : Rep W G h) (hbig : W.n < 1000) (hk : k < 2000) (hs : Wd.Settles k W W') :
  Arm.Calls Try.prog 14 [ptr (G.B .wd), nv (W.n : Int)] h (fun r => r.1 = .bool true ∧ Nxt W' G h r.2) := by
 have hbg : W.n < big := Nat.lt_trans hbig (by decide)
 refine Calls_of_W (n := 56) (fn := Try.f14) kr rfl rfl (Nat.le_of_ble_eq_true rfl) trivial ⟨.inr (by simp), rfl⟩ ?_
 have T0 : Sm Nix h h := .refl
 refine W_seq ?_
 refine W_region ?_
 refine L_g 1 kr ?_
 refine L_nil ?_
 refine W_seq ?_
 refine W_seq ?_
 refine W_region ?_
 refine L_g 1 kr ?_
 refine L_nil ?_
 refine W_block ?_
 refine W_loop (fun mm fr hh => ∃ (k : Nat) (i : Nat) (Wa : Wd) (Sa : Ro → Value) (Ca : Ro → Th) (ra : Nat → Prop), mm = k ∧ (i + k < 2000) ∧ (Wd.Settles k Wa W') ∧ Wa.n = W.n ∧ Rep Wa (⟨G.B, Sa, Ca, ra⟩ : Gh) hh ∧ Gx G h (⟨G.B, Sa, Ca, ra⟩ : Gh) hh ∧ fr 0 = ptr (G.B .wd) ∧ fr 1 = nv (W.n : Int) ∧ fr 12 = nv (i : Int)) (k) ?_ ?_
 ·
  have T0x := T0
  exact ⟨k, 0, W, _, _, _, rfl, by omega, hs, rfl, (R.ext T0), ((Gx.refl).trans (Gx.of T0)), kr, kr, kr⟩
 rintro mm fr hha ⟨k, i, Wa, Sa, Ca, ra, hma, ha1, ha2, hna, Ra, Xa, y0, y1, y12⟩
 refine W_set (k := 0) y0 ?_
 refine W_set (k := 1) y1 ?_
 refine W_set (k := 12) y12 ?_
 have Ta : Sm Nix hha hha := .refl
 obtain ⟨W1, hr1, hq1⟩ := ha2.step
 obtain ⟨Wy, hal, hcl⟩ := Option.bind_eq_some_iff.1 hr1
 rw [hna] at hal hcl
 refine W_seq ?_
 refine W_region ?_
 refine L_i ((i : Int)) (2000) (.bool true) rfl rfl kr kr rfl (by first | (simp; done) | (simp; omega)) ?_
 refine L_nil ?_
 refine W_seq ?_
 refine W_cond true kr (fun _ => ?_) (fun e => by cases e)
 refine W_skip ?_
 refine W_seq ?_
 refine W_block ?_
 refine W_seq ?_
 refine W_seq ?_
 refine W_region ?_
 refine L_g 2 kr ?_
 refine L_nil ?_
 refine W_block ?_
 refine W_loop (fun mm fr hh => ∃ (p : Nat) (Wb : Wd) (Sb : Ro → Value) (Cb : Ro → Th) (rb : Nat → Prop), mm = W.n - p ∧ (p ≤ W.n) ∧ (Wd.allD W.n p (W.n - p) Wb = some Wy) ∧ Wb.n = W.n ∧ Rep Wb (⟨G.B, Sb, Cb, rb⟩ : Gh) hh ∧ Gx G h (⟨G.B, Sb, Cb, rb⟩ : Gh) hh ∧ fr 0 = ptr (G.B .wd) ∧ fr 1 = nv (W.n : Int) ∧ fr 12 = nv (i : Int) ∧ fr 14 = nv (W.n : Int) ∧ fr 15 = nv (p : Int)) (W.n) ?_ ?_
 ·
  exact ⟨0, Wa, _, _, _, rfl, Nat.zero_le _, hal, hna, (Ra.ext Ta), ((Xa).trans (Gx.of Ta)), kr, kr, kr, kr, kr⟩
 rintro mm fr hhb ⟨p, Wb, Sb, Cb, rb, hmb, hb1, hb2, hnb, Rb, Xb, y0, y1, y12, y14, y15⟩
 refine W_set (k := 0) y0 ?_
 refine W_set (k := 1) y1 ?_
 refine W_set (k := 12) y12 ?_
 refine W_set (k := 14) y14 ?_
 refine W_set (k := 15) y15 ?_
 have Tb : Sm Nix hhb hhb := .refl
 refine W_seq ?_
 refine W_region ?_
 refine L_i ((p : Int)) ((W.n : Int)) (.bool (decide ((p : Int) < (W.n : Int)))) rfl rfl kr kr rfl (rfl) ?_
 refine L_nil ?_
 refine W_seq ?_
 refine W_cond (decide ((p : Int) < (W.n : Int))) kr (fun hb => ?_) (fun hb => ?_)
 ·
  have hpl : p < W.n := by simp at hb; omega
  rw [show W.n - p = (W.n - (p + 1)) + 1 by omega] at hb2
  obtain ⟨Wx, hx1, hb3⟩ := Option.bind_eq_some_iff.1 hb2
  have hnx : Wx.n = W.n := (Wd.rowD_n hx1).trans hnb
  refine W_skip ?_
  refine W_seq ?_
  refine W_block ?_
  refine W_seq ?_
  refine W_region ?_
  refine L_g 2 kr ?_
  refine L_nil ?_
  refine W_seq ?_
  refine W_region ?_
  refine L_g 2 kr ?_
  refine L_nil ?_
  refine W_block ?_
  refine W_loop (fun mm fr hh => ∃ (q : Nat) (Wc : Wd) (Sc : Ro → Value) (Cc : Ro → Th) (rc : Nat → Prop), mm = W.n - q ∧ (q ≤ W.n) ∧ (Wd.rowD p q (W.n - q) Wc = some Wx) ∧ Wc.n = W.n ∧ Rep Wc (⟨G.B, Sc, Cc, rc⟩ : Gh) hh ∧ Gx G h (⟨G.B, Sc, Cc, rc⟩ : Gh) hh ∧ fr 0 = ptr (G.B .wd) ∧ fr 1 = nv (W.n : Int) ∧ fr 12 = nv (i : Int) ∧ fr 14 = nv (W.n : Int) ∧ fr 15 = nv (p : Int) ∧ fr 5 = nv (p : Int) ∧ fr 18 = nv (W.n : Int) ∧ fr 19 = nv (q : Int)) (W.n) ?_ ?_
  ·
   exact ⟨0, Wb, _, _, _, rfl, Nat.zero_le _, hx1, hnb, (Rb.ext Tb), ((Xb).trans (Gx.of Tb)), kr, kr, kr, kr, kr, kr, kr, kr⟩
  rintro mm fr hhc ⟨q, Wc, Sc, Cc, rc, hmc, hc1, hc2, hnc, Rc, Xc, y0, y1, y12, y14, y15, y5, y18, y19⟩
  refine W_set (k := 0) y0 ?_
  refine W_set (k := 1) y1 ?_
  refine W_set (k := 12) y12 ?_
  refine W_set (k := 14) y14 ?_
  refine W_set (k := 15) y15 ?_
  refine W_set (k := 5) y5 ?_
  refine W_set (k := 18) y18 ?_
  refine W_set (k := 19) y19 ?_
  have Tc : Sm Nix hhc hhc := .refl
  refine W_seq ?_
  refine W_region ?_
  refine L_i ((q : Int)) ((W.n : Int)) (.bool (decide ((q : Int) < (W.n : Int)))) rfl rfl kr kr rfl (rfl) ?_
  refine L_nil ?_
  refine W_seq ?_
  refine W_cond (decide ((q : Int) < (W.n : Int))) kr (fun hb => ?_) (fun hb => ?_)
  ·
   have hql : q < W.n := by simp at hb; omega
   rw [show W.n - q = (W.n - (q + 1)) + 1 by omega] at hc2
   obtain ⟨Wu, hu1, hc3⟩ := Option.bind_eq_some_iff.1 hc2
   have hnu : Wu.n = W.n := (Wd.delAll_n hu1).trans hnc
   unfold Wd.delAll at hu1
   split at hu1
   rotate_right
   · cases hu1
   rename_i hlen
   obtain rfl := Option.some.inj hu1
   refine W_skip ?_
   refine W_seq ?_
   refine W_block ?_
   refine W_seq ?_
   refine W_region ?_
   refine L_g 2 kr ?_
   refine L_nil ?_
   refine W_seq ?_
   refine W_region ?_
   refine L_g 1 kr ?_
   refine L_nil ?_
   refine W_block ?_
   refine W_loop (fun mm fr hh => ∃ (j : Nat) (Wd9 : Wd) (Sd : Ro → Value) (Cd : Ro → Th) (rd : Nat → Prop), mm = (Wc.way p q).length - j ∧ (j ≤ (Wc.way p q).length) ∧ (Wd9 = Wc.mv p q j) ∧ Wd9.n = W.n ∧ Rep Wd9 (⟨G.B, Sd, Cd, rd⟩ : Gh) hh ∧ Gx G h (⟨G.B, Sd, Cd, rd⟩ : Gh) hh ∧ fr 0 = ptr (G.B .wd) ∧ fr 1 = nv (W.n : Int) ∧ fr 12 = nv (i : Int) ∧ fr 14 = nv (W.n : Int) ∧ fr 15 = nv (p : Int) ∧ fr 5 = nv (p : Int) ∧ fr 18 = nv (W.n : Int) ∧ fr 19 = nv (q : Int) ∧ fr 6 = nv (q : Int) ∧ fr 22 = nv (j : Int)) ((Wc.way p q).length) ?_ ?_
   ·
     exact ⟨0, Wc, _, _, _, rfl, Nat.zero_le _, (Wd.mv_0 Wc p q).symm, hnc, (Rc.ext Tc), ((Xc).trans (Gx.of Tc)), kr, kr, kr, kr, kr, kr, kr, kr, kr, kr⟩
   rintro mm fr hhd ⟨j, Wd9, Sd, Cd, rd, hmd, hd1, hd2, hnd, Rd, Xd, y0, y1, y12, y14, y15, y5, y18, y19, y6, y22⟩
   refine W_set (k := 0) y0 ?_
   refine W_set (k := 1) y1 ?_
   refine W_set (k := 12) y12 ?_
   refine W_set (k := 14) y14 ?_
   refine W_set (k := 15) y15 ?_
   refine W_set (k := 5) y5 ?_
   refine W_set (k := 18) y18 ?_
   refine W_set (k := 19) y19 ?_
   refine W_set (k := 6) y6 ?_
   refine W_set (k := 22) y22 ?_
   have Td : Sm Nix hhd hhd := .refl
   refine W_seq ?_
   refine W_region ?_
   refine L_i ((j : Int)) (200) (.bool true) rfl rfl kr kr rfl (by first | (simp; done) | (simp; omega)) ?_
   refine L_nil ?_
   refine W_seq ?_
   refine W_cond true kr (fun _ => ?_) (fun e => by cases e)
   refine W_skip ?_
   refine W_seq ?_
   refine W_block ?_
   refine W_seq ?_
   subst hd2
   have hp9 : p < (Wc.mv p q j).n := by show p < Wc.n; rw [hnc]; exact hpl
   have hq9 : q < (Wc.mv p q j).n := by show q < Wc.n; rw [hnc]; exact hql
   by_cases hj : j = (Wc.way p q).length
   ·
     have hem : (Wc.mv p q j).way p q = [] := by rw [Wd.mv_way, hj, List.drop_length]
     subst hj
     refine W_region ?_
     refine L_g 3 kr ?_
     refine L_c rfl rfl kr (deliver_no (a := p) (b := q) (Rd.ext Td) hp9 hq9 hem) ?_
     rintro v295 h295 ⟨e295, t295⟩
     try dsimp only at e295
     try dsimp only at t295
     subst e295
     have T295 : Sm Nix hhd h295 := Td.ext t295
     have N295 := T295.nx
     have M295 := t295.nx
     refine L_g 5 kr ?_
     refine L_nil ?_
     refine W_seq ?_
     refine W_region ?_
     refine L_g 6 kr ?_
     refine L_nil ?_
     refine W_cond true kr (fun _ => ?_) (fun e => by cases e)
     refine W_exit ?_
     repeat with_reducible refine then_exit ?_
     refine exit_out rfl ?_
     repeat with_reducible refine then_exit ?_
     refine exit_here ?_
     refine W_region ?_
     refine L_i ((q : Int)) (1) (nv ((q + 1 : Nat) : Int)) rfl rfl kr kr rfl (inc_ok (by omega)) ?_
     refine L_g 1 kr ?_
     refine L_nil ?_
     exact ⟨W.n - (q + 1), by omega, (q + 1), _, _, _, _, rfl, by omega, hc3, hnu, (Rd.ext T295), ((Xd).trans (Gx.of T295)), kr, kr, kr, kr, kr, kr, kr, kr⟩
   ·
     obtain ⟨x, hx⟩ : ∃ x, (Wc.way p q)[j]? = some x := ⟨_, List.getElem?_eq_getElem (by omega)⟩
     have hdr := drop_cons hx
     have hwy : (Wc.mv p q j).way p q = x :: (Wc.way p q).drop (j + 1) := by rw [Wd.mv_way, hdr]
     have hbg : ((Wc.mv p q j).pr q).inb.length < big := by rw [Wd.mv_inb, List.length_append, List.length_map, List.length_take]; have := hlen.1; have := hlen.2; omega
     refine W_region ?_
     refine L_g 3 kr ?_
     refine L_c rfl rfl kr (deliver_ok (a := p) (b := q) (Rd.ext Td) hp9 hq9 hwy hbg) ?_
     rintro v296 h296 ⟨e296, N296⟩
     dsimp only at e296 N296
     subst e296
     obtain ⟨S296, C296, ro296, R296, Y296⟩ := N296
     have X296 := ((Xd).trans (Gx.of Td)).trans Y296
     have T296 : Sm (Ow h (⟨Gh.B (⟨G.B, Sd, Cd, rd⟩ : Gh), S296, C296, ro296⟩ : Gh)) h296 h296 := .refl
     refine L_g 5 kr ?_
     refine L_nil ?_
     refine W_seq ?_
     refine W_region ?_
     refine L_g 6 kr ?_
     refine L_nil ?_
     refine W_cond false kr (fun e => by cases e) (fun _ => ?_)
     refine W_skip ?_
     refine W_region ?_
     refine L_i ((j : Int)) (1) (nv ((j + 1 : Nat) : Int)) rfl rfl kr kr rfl (inc_ok (by have := hlen.1; omega)) ?_
     refine L_g 1 kr ?_
     refine L_nil ?_
     exact ⟨(Wc.way p q).length - (j + 1), by omega, (j + 1), _, _, _, _, rfl, by omega, Wd.mv_s Wc p q j hdr, hnu, (R296.ow T296), ((X296).ow T296), kr, kr, kr, kr, kr, kr, kr, kr, kr, kr⟩
  ·
   have hge : q = W.n := by simp at hb; omega
   rw [hge, Nat.sub_self] at hc2
   obtain rfl := Option.some.inj hc2
   refine W_exit ?_
   repeat with_reducible refine then_exit ?_
   refine exit_here ?_
   refine W_region ?_
   refine L_i ((p : Int)) (1) (nv ((p + 1 : Nat) : Int)) rfl rfl kr kr rfl (inc_ok (by omega)) ?_
   refine L_g 1 kr ?_
   refine L_nil ?_
   exact ⟨W.n - (p + 1), by omega, (p + 1), _, _, _, _, rfl, by omega, hb3, hnx, (Rc.ext Tc), ((Xc).trans (Gx.of Tc)), kr, kr, kr, kr, kr⟩
 ·
  have hge : p = W.n := by simp at hb; omega
  rw [hge, Nat.sub_self] at hb2
  obtain rfl := Option.some.inj hb2
  refine W_exit ?_
  repeat with_reducible refine then_exit ?_
  refine exit_here ?_
  refine W_seq ?_
  refine W_seq ?_
  refine W_region ?_
  refine L_g 2 kr ?_
  refine L_nil ?_
  refine W_block ?_
  refine W_loop (fun mm fr hh => ∃ (p : Nat) (We : Wd) (Se : Ro → Value) (Ce : Ro → Th) (re : Nat → Prop), mm = W.n - p ∧ (p ≤ W.n) ∧ (Wd.callsD p (W.n - p) We = some W1) ∧ We.n = W.n ∧ Rep We (⟨G.B, Se, Ce, re⟩ : Gh) hh ∧ Gx G h (⟨G.B, Se, Ce, re⟩ : Gh) hh ∧ fr 0 = ptr (G.B .wd) ∧ fr 1 = nv (W.n : Int) ∧ fr 12 = nv (i : Int) ∧ fr 40 = nv (W.n : Int) ∧ fr 41 = nv (p : Int)) (W.n) ?_ ?_
  ·
   exact ⟨0, _, _, _, _, rfl, Nat.zero_le _, hcl, hnb, (Rb.ext Tb), ((Xb).trans (Gx.of Tb)), kr, kr, kr, kr, kr⟩
  rintro mm fr hhe ⟨p, We, Se, Ce, re, hme, he1, he2, hne, Re, Xe, y0, y1, y12, y40, y41⟩
  refine W_set (k := 0) y0 ?_
  refine W_set (k := 1) y1 ?_
  refine W_set (k := 12) y12 ?_
  refine W_set (k := 40) y40 ?_
  refine W_set (k := 41) y41 ?_
  have Te : Sm Nix hhe hhe := .refl
  refine W_seq ?_
  refine W_region ?_
  refine L_i ((p : Int)) ((W.n : Int)) (.bool (decide ((p : Int) < (W.n : Int)))) rfl rfl kr kr rfl (rfl) ?_
  refine L_nil ?_
  refine W_seq ?_
  refine W_cond (decide ((p : Int) < (W.n : Int))) kr (fun hb => ?_) (fun hb => ?_)
  ·
   have hpl : p < W.n := by simp at hb; omega
   rw [show W.n - p = (W.n - (p + 1)) + 1 by omega] at he2
   obtain ⟨Wv, hv1, he3⟩ := Option.bind_eq_some_iff.1 he2
   have hnv : Wv.n = W.n := (Wd.call_n hv1).trans hne
   have hp9 : p < We.n := by rw [hne]; exact hpl
   refine W_skip ?_
   refine W_seq ?_
   refine W_block ?_
   refine W_seq ?_
   refine W_region ?_
   refine L_g 2 kr ?_
   refine L_nil ?_
   refine W_seq ?_
   refine W_region ?_
   refine L_g 2 kr ?_
   refine L_c rfl rfl kr (prog_ok (Re.ext Te) hp9 hv1) ?_
   rintro v297 h297 ⟨e297, N297⟩
   dsimp only at e297 N297
   subst e297
   obtain ⟨S297, C297, ro297, R297, Y297⟩ := N297
   have X297 := ((Xe).trans (Gx.of Te)).trans Y297
   have T297 : Sm (Ow h (⟨Gh.B (⟨G.B, Se, Ce, re⟩ : Gh), S297, C297, ro297⟩ : Gh)) h297 h297 := .refl
   refine L_g 5 kr ?_
   refine L_nil ?_
   refine W_seq ?_
   refine W_region ?_
   refine L_g 2 kr ?_
   refine L_nil ?_
   refine W_cond false kr (fun e => by cases e) (fun _ => ?_)
   refine W_skip ?_
   refine W_region ?_
   refine L_i ((p : Int)) (1) (nv ((p + 1 : Nat) : Int)) rfl rfl kr kr rfl (inc_ok (by omega)) ?_
   refine L_g 1 kr ?_
   refine L_nil ?_
   exact ⟨W.n - (p + 1), by omega, (p + 1), _, _, _, _, rfl, by omega, he3, hnv, (R297.ow T297), ((X297).ow T297), kr, kr, kr, kr, kr⟩
  ·
   have hge : p = W.n := by simp at hb; omega
   rw [hge, Nat.sub_self] at he2
   obtain rfl := Option.some.inj he2
   refine W_exit ?_
   repeat with_reducible refine then_exit ?_
   refine exit_here ?_
   refine W_seq ?_
   rcases hq1 with ⟨hqt, hw9⟩ | ⟨hqf, k', hk', hst⟩
   ·
     subst hw9
     refine W_region ?_
     refine L_g 1 kr ?_
     refine L_c rfl rfl kr (quiet_ok (Re.ext Te) (by rw [hne]; exact hbg)) ?_
     rintro v298 h298 ⟨b298, e298, q298, t298⟩
     try dsimp only at t298
     dsimp only at e298 t298
     obtain rfl : b298 = true := q298.2 hqt
     subst e298
     have T298 : Sm Nix hhe h298 := Te.ext t298
     have N298 := T298.nx
     have M298 := t298.nx
     refine L_nil ?_
     refine W_cond true kr (fun _ => ?_) (fun e => by cases e)
     refine W_seq ?_
     refine W_region ?_
     refine L_g 1 kr ?_
     refine L_nil ?_
     refine W_ret ?_
     repeat first | with_reducible refine then_ret ?_ | with_reducible refine blk_ret ?_
     refine done_of (v := .bool true) (.inl rfl) kr ?_
     exact ⟨rfl, _, _, _, (Re.ext T298), ((Xe).trans (Gx.of T298))⟩
   ·
     refine W_region ?_
     refine L_g 1 kr ?_
     refine L_c rfl rfl kr (quiet_ok (Re.ext Te) (by rw [hne]; exact hbg)) ?_
     rintro v299 h299 ⟨b299, e299, q299, t299⟩
     try dsimp only at t299
     dsimp only at e299 t299
     obtain rfl : b299 = false := by
      cases b299 with
      | false => rfl
      | true => exact (hqf (q299.1 rfl)).elim
     subst e299
     have T299 : Sm Nix hhe h299 := Te.ext t299
     have N299 := T299.nx
     have M299 := t299.nx
     refine L_nil ?_
     refine W_cond false kr (fun e => by cases e) (fun _ => ?_)
     refine W_skip ?_
     refine W_region ?_
     refine L_i ((i : Int)) (1) (nv ((i + 1 : Nat) : Int)) rfl rfl kr kr rfl (inc_ok (by omega)) ?_
     refine L_g 1 kr ?_
     refine L_nil ?_
     exact ⟨k', by omega, k', (i + 1), _, _, _, _, rfl, by omega, hst, (Wd.rnd_n hr1).trans hna, (Re.ext T299), ((Xe).trans (Gx.of T299)), kr, kr, kr⟩
end
end Go.Proofs.Ytmehemeoaplepaa
namespace Go.Mt
open Go.Arm
def T2 (K : Wd) (a b : Pr) (f g : Nat → Rq) (u v : List Pk) : Wd := ⟨K.lim, 2, fun p => if p = 0 then a else if p = 1 then b else K.pr p, fun p => if p = 0 then f else if p = 1 then g else K.rq p,
 fun i j => if i = 0 ∧ j = 1 then u else if i = 1 ∧ j = 0 then v else []⟩
theorem ups_ups {α : Type} (f : Nat → α) (k : Nat) (x y : α) : ups (ups f k x) k y = ups f k y := by
 funext j; simp only [ups]; split <;> rfl
theorem Wd.Settles.cast {k : Nat} {w w1 w2 : Wd} (h : Wd.Settles k w w1) (e : w1 = w2) : Wd.Settles k w w2 := e ▸ h
namespace T2
variable {K : Wd} {a b : Pr} {f g : Nat → Rq} {u v : List Pk}
theorem pr0_ : (T2 K a b f g u v).pr 0 = a := rfl
theorem pr1_ : (T2 K a b f g u v).pr 1 = b := rfl
theorem rq0_ : (T2 K a b f g u v).rq 0 = f := rfl
theorem rq1_ : (T2 K a b f g u v).rq 1 = g := rfl
theorem way01 : (T2 K a b f g u v).way 0 1 = u := rfl
theorem way10 : (T2 K a b f g u v).way 1 0 = v := rfl
theorem setPr0 (x : Pr) : (T2 K a b f g u v).setPr 0 x = T2 K x b f g u v := by
 unfold Wd.setPr T2; congr 1; funext p; simp only [ups]; split <;> simp_all
theorem setPr1 (x : Pr) : (T2 K a b f g u v).setPr 1 x = T2 K a x f g u v := by
 unfold Wd.setPr T2; congr 1; funext p; simp only [ups]; split <;> simp_all
theorem setRq0 (no : Nat) (x : Rq) : (T2 K a b f g u v).setRq 0 no x = T2 K a b (ups f no x) g u v := by
 unfold Wd.setRq T2; congr 1; funext p; simp only [ups]; split <;> simp_all
theorem setRq1 (no : Nat) (x : Rq) : (T2 K a b f g u v).setRq 1 no x = T2 K a b f (ups g no x) u v := by
 unfold Wd.setRq T2; congr 1; funext p; simp only [ups]; split <;> simp_all
theorem setWay00 : (T2 K a b f g u v).setWay 0 0 [] = T2 K a b f g u v := Wd.setWay_same _ 0 0
theorem setWay11 : (T2 K a b f g u v).setWay 1 1 [] = T2 K a b f g u v := Wd.setWay_same _ 1 1
theorem setWay01 (x : List Pk) : (T2 K a b f g u v).setWay 0 1 x = T2 K a b f g x v := by
 unfold Wd.setWay T2; congr 1; funext p q; simp only [ups]
 by_cases e : p = 0
 · subst e; by_cases e2 : q = 1
   · subst e2; simp [ups]
   · simp [ups, e2]
 · simp [e]
theorem setWay10 (x : List Pk) : (T2 K a b f g u v).setWay 1 0 x = T2 K a b f g u x := by
 unfold Wd.setWay T2; congr 1; funext p q; simp only [ups]
 by_cases e : p = 1
 · subst e; by_cases e2 : q = 0
   · subst e2; simp [ups]
   · simp [ups, e2]
 · simp [e]
theorem put01 {x : Pk} (h : u.length < big) : (T2 K a b f g u v).put 0 1 x = some (T2 K a b f g (u ++ [x]) v) := by
 unfold Wd.put; rw [way01, if_pos h, setWay01]
theorem put10 {x : Pk} (h : v.length < big) : (T2 K a b f g u v).put 1 0 x = some (T2 K a b f g u (v ++ [x])) := by
 unfold Wd.put; rw [way10, if_pos h, setWay10]
theorem del00 (h : a.inb.length + 200 < big) : (T2 K a b f g u v).delAll 0 0 = some (T2 K a b f g u v) := by
 unfold Wd.delAll
 rw [if_pos]
 · show some (((T2 K a b f g u v).setWay 0 0 []).setPr 0 { a with inb := a.inb ++ [] }) = _
   rw [setWay00, setPr0, List.append_nil]
 · exact ⟨by show [].length < 200; decide, h⟩
theorem del11 (h : b.inb.length + 200 < big) : (T2 K a b f g u v).delAll 1 1 = some (T2 K a b f g u v) := by
 unfold Wd.delAll
 rw [if_pos]
 · show some (((T2 K a b f g u v).setWay 1 1 []).setPr 1 { b with inb := b.inb ++ [] }) = _
   rw [setWay11, setPr1, List.append_nil]
 · exact ⟨by show [].length < 200; decide, h⟩
theorem del01 (hu : u.length < 200) (h : b.inb.length + 200 < big) : (T2 K a b f g u v).delAll 0 1 = some (T2 K a { b with inb := b.inb ++ u.map fun x => ((0 : Int), x) } f g [] v) := by
 unfold Wd.delAll
 rw [if_pos]
 · show some (((T2 K a b f g u v).setWay 0 1 (u.drop u.length)).setPr 1 { b with inb := b.inb ++ (u.take u.length).map fun x => ((0 : Int), x) }) = _
   rw [setWay01, setPr1, List.drop_length, List.take_length]
 · exact ⟨hu, h⟩
theorem del10 (hv : v.length < 200) (h : a.inb.length + 200 < big) : (T2 K a b f g u v).delAll 1 0 = some (T2 K { a with inb := a.inb ++ v.map fun x => ((1 : Int), x) } b f g u []) := by
 unfold Wd.delAll
 rw [if_pos]
 · show some (((T2 K a b f g u v).setWay 1 0 (v.drop v.length)).setPr 0 { a with inb := a.inb ++ (v.take v.length).map fun x => ((1 : Int), x) }) = _
   rw [setWay10, setPr0, List.drop_length, List.take_length]
 · exact ⟨hv, h⟩
theorem all (ha : a.inb = []) (hb : b.inb = []) (hu : u.length < 200) (hv : v.length < 200) :
  Wd.allD 2 0 2 (T2 K a b f g u v) = some (T2 K { a with inb := v.map fun x => ((1 : Int), x) } { b with inb := u.map fun x => ((0 : Int), x) } f g [] []) := by
 have h0 : a.inb.length + 200 < big := by rw [ha]; decide
 have h1 : b.inb.length + 200 < big := by rw [hb]; decide
 have hb200 : 400 < big := by decide
 simp only [Wd.allD, Wd.rowD, del00 h0, del01 hu h1, Option.bind_some, Nat.zero_add]
 rw [del10 hv h0]
 simp only [Option.bind_some]
 rw [del11 (by rw [hb]; simp only [List.nil_append, List.length_map]; omega)]
 simp only [Option.bind_some, ha, hb, List.nil_append]
theorem call0 {l : List (Int × Pk)} (ha : a.inb = l) (h : l.length < big) : (T2 K a b f g u v).call 0 = Wd.handles 0 (T2 K { a with inb := [] } b f g u v) l := by
 unfold Wd.call; rw [pr0_, ha, if_pos h, setPr0]
theorem call1 {l : List (Int × Pk)} (hb : b.inb = l) (h : l.length < big) : (T2 K a b f g u v).call 1 = Wd.handles 1 (T2 K a { b with inb := [] } f g u v) l := by
 unfold Wd.call; rw [pr1_, hb, if_pos h, setPr1]
theorem rest0 (ha : a.inb = []) : (T2 K a b f g u v).call 0 = some (T2 K a b f g u v) := by
 rw [call0 ha (by decide)]; show some (T2 K { a with inb := [] } b f g u v) = _; rw [← ha]
theorem rest1 (hb : b.inb = []) : (T2 K a b f g u v).call 1 = some (T2 K a b f g u v) := by
 rw [call1 hb (by decide)]; show some (T2 K a { b with inb := [] } f g u v) = _; rw [← hb]
theorem quiet (ha : a.inb = []) (hb : b.inb = []) : (T2 K a b f g [] []).quiet := by
 refine ⟨fun i j => ?_, fun p hp => ?_⟩
 · show (if i = 0 ∧ j = 1 then [] else if i = 1 ∧ j = 0 then [] else []) = ([] : List Pk)
   split
   · rfl
   · split <;> rfl
 · rcases p with _ | _ | p
   · exact ha
   · exact hb
   · have : (p + 1 + 1) < 2 := hp; omega
theorem loud0 {x : Pk} : ¬ (T2 K a b f g (x :: u) v).quiet := fun h => by have := h.1 0 1; rw [way01] at this; cases this
theorem loud1 {x : Pk} : ¬ (T2 K a b f g u (x :: v)).quiet := fun h => by have := h.1 1 0; rw [way10] at this; cases this
theorem rnd {w1 w2 : Wd} (ha : a.inb = []) (hb : b.inb = []) (hu : u.length < 200) (hv : v.length < 200)
  (h1 : Wd.handles 0 (T2 K a { b with inb := u.map fun x => ((0 : Int), x) } f g [] []) (v.map fun x => ((1 : Int), x)) = some w1)
  (h2 : w1.call 1 = some w2) : (T2 K a b f g u v).rnd = some w2 := by
 unfold Wd.rnd
 rw [show (T2 K a b f g u v).n = 2 from rfl, all ha hb hu hv]
 simp only [Option.bind_some, Wd.callsD, Nat.zero_add]
 have e : ({ { a with inb := v.map fun x => ((1 : Int), x) } with inb := [] } : Pr) = a := by rw [← ha]
 rw [call0 rfl (by rw [List.length_map]; exact Nat.lt_trans hv (by decide)), e, h1]
 simp only [Option.bind_some, h2]
end T2
end Go.Mt
namespace Go.Mt
open Go.Arm
def sq (s act dn : Bool) (d : By) (st : St) : Rq := ⟨1, 1, 0, 9, 0, true, s, true, act, dn, 0, 0, d, [], 0, [], false, st⟩
def tq (act dn : Bool) (d : By) (st : St) : Rq := ⟨1, 0, 0, -1, 50, false, false, true, act, dn, 0, 0, d, [], 0, [], false, st⟩
def ap : Pr := ⟨2, [1], [], [], [], [], [1, 1]⟩
def Ag (K : Wd) (s : Bool) (W : Wd) : Prop := ∃ f g dn d st dn' d' st', f 1 = sq s false dn d st ∧ g 1 = tq false dn' d' st' ∧ W = T2 K ap ap f g [] []
structure Lap (W : Wd) (d : By) (W' : Wd) : Prop where
 ex : ∃ (k : Nat) (W2 W3 W4 W5 : Wd), W.call 0 = some W ∧ W.start 0 1 d = some W2 ∧ W2.n = 2 ∧ 1 ∈ (W2.pr 0).reqs ∧ 1 ∈ (W2.pr 1).reqs ∧ (W2.rq 0 1).pers = true ∧ (W2.rq 0 1).act = true ∧ (W2.rq 1 1).pers = true ∧ (W2.rq 1 1).act = false ∧ (W2.rq 1 1).send = false ∧
  W2.call 1 = some W2 ∧ W2.start 1 1 [] = some W3 ∧ W3.n = 2 ∧ k < 2000 ∧ Wd.Settles k W3 W4 ∧ W4.n = 2 ∧
  1 ∈ (W4.pr 0).reqs ∧ (W4.rq 0 1).act = true ∧ W4.call 0 = some W4 ∧ (W4.rq 0 1).done = true ∧ (W4.rq 0 1).send = true ∧ (W4.rq 0 1).st = ⟨1, 9, d.length, 0⟩ ∧ W5 = W4.over 0 1 ∧ W5.n = 2 ∧
  1 ∈ (W5.pr 1).reqs ∧ (W5.rq 1 1).act = true ∧ W5.call 1 = some W5 ∧ (W5.rq 1 1).done = true ∧ (W5.rq 1 1).send = false ∧ (W5.rq 1 1).st = ⟨0, 9, d.length, 0⟩ ∧ (W5.rq 1 1).data = d ∧ W' = W5.over 1 1
section
variable {K : Wd} {f g : Nat → Rq} {d : By}
theorem d_big (hd : d.length ≤ 50) : d.length < big := by have : 50 < big := by decide
                                                          omega
theorem start0 {s dn : Bool} {d0 : By} {st : St} (hf : f 1 = sq s false dn d0 st) (hd : d.length ≤ 50) :
  (T2 K ap ap f g [] []).start 0 1 d = (T2 K ap ap (ups f 1 (sq s true false d ⟨1, 9, d.length, 0⟩)) g [] []).send 0 1 ⟨0, 0, 9, d.length, 0⟩ := by
 have hb := d_big hd
 have hg : (0 : Nat) < big := by decide
 unfold Wd.start
 rw [T2.rq0_, T2.pr0_, hf]
 unfold sq
 dsimp only
 rw [if_neg (fun h => h ⟨by show 0 * 0 < big; exact hg, hb, hg, Int.le_refl _⟩), if_pos rfl]
 show ((T2 K ap ap f g [] []).setRq 0 1 _).send 0 1 _ = _
 rw [T2.setRq0]
 rfl
theorem send_eager {u v : List Pk} (hu : u.length < big) (hf : f 1 = sq false true false d ⟨1, 9, d.length, 0⟩) (hl : (d.length : Int) ≤ K.lim) :
  (T2 K ap ap f g u v).send 0 1 ⟨0, 0, 9, d.length, 0⟩ = some (T2 K { ap with crds := [1, 0] } ap (ups f 1 (sq false true true d ⟨1, 9, d.length, 0⟩)) g (u ++ [.eager ⟨0, 0, 9, d.length, 0⟩ d]) v) := by
 unfold Wd.send
 rw [T2.rq0_, T2.pr0_, hf]
 unfold sq
 dsimp only
 rw [if_neg (by decide), if_neg (by rintro (h | h | h); cases h; exact (Nat.lt_irrefl 0 h); exact absurd h (Int.not_lt.2 hl)), if_pos (by decide), if_neg (by decide), if_pos (by decide)]
 rw [T2.setPr0]
 show Option.map _ (Wd.put _ 0 1 _) = _
 rw [T2.put01 hu]
 show some (Wd.setRq _ 0 1 _) = _
 rw [T2.setRq0]
 rfl
theorem send_ask {s : Bool} {u v : List Pk} (hu : u.length < big) (hf : f 1 = sq s true false d ⟨1, 9, d.length, 0⟩) (hl : ¬ (s = false ∧ (d.length : Int) ≤ K.lim)) :
   (T2 K ap ap f g u v).send 0 1 ⟨0, 0, 9, d.length, 0⟩ = some (T2 K ap ap f g (u ++ [.ask ⟨0, 0, 9, d.length, 0⟩ 1]) v) := by
 unfold Wd.send
 rw [T2.rq0_, T2.pr0_, hf]
 unfold sq
 dsimp only
 rw [if_neg (by decide), if_pos]
 · show Wd.put _ 0 1 _ = _
   rw [T2.put01 hu]
   rfl
 · cases s with
   | true => exact .inl rfl
   | false => exact .inr (.inr (Int.not_le.1 fun h => hl ⟨rfl, h⟩))
theorem start1 {a : Pr} {u v : List Pk} {dn : Bool} {d0 : By} {st : St} (hg : g 1 = tq false dn d0 st) :
  (T2 K a ap f g u v).start 1 1 [] = some (T2 K a { ap with rcvs := [1] } f (ups g 1 (tq true false [] St.z)) u v) := by
 have h0 : (0 : Nat) < big := by decide
 unfold Wd.start
 rw [T2.rq1_, T2.pr1_, hg]
 unfold tq
 dsimp only
 rw [if_neg (fun h => h ⟨by show 0 * 0 < big; exact h0, h0, h0, by decide⟩), if_neg (by decide), if_neg (by decide)]
 rw [if_pos (show ap.rcvs.length < big from h0), T2.setRq1, T2.setPr1]
 rfl
theorem fits1 {n : Nat} : (tq true false [] St.z).fits ⟨0, 0, 9, n, 0⟩ = true := rfl
theorem came1 {a : Pr} {u v : List Pk} {m : Ms} {n : Nat} (hm : m.en = ⟨0, 0, 9, n, 0⟩) (hg : g 1 = tq true false [] St.z) :
  (T2 K a { ap with rcvs := [1] } f g u v).came 1 m = (T2 K a ap f g u v).mtch 1 1 m := by
 have hsm : (g 1).small := by rw [hg]; show 0 * 0 < big; decide
 unfold Wd.came
 rw [T2.pr1_]
 dsimp only
 rw [if_neg (fun h => h ⟨fun no hno => by rw [List.mem_singleton.1 hno]; exact hsm, by show 1 < big; decide⟩)]
 rw [show (List.findIdx? (fun no => ((T2 K a { ap with rcvs := [1] } f g u v).rq 1 no).fits m.en) [1]) = some 0 by
  rw [T2.rq1_, hm]; simp only [List.findIdx?_cons, hg, fits1]; rfl]
 dsimp only
 rw [T2.setPr1]
 rfl
theorem take_eager {a : Pr} {u v : List Pk} (hv : v.length < big) (hd : d.length ≤ 50) (hg : g 1 = tq true false [] St.z) :
  (T2 K a { ap with rcvs := [1] } f g u v).handle 1 0 (.eager ⟨0, 0, 9, d.length, 0⟩ d) = some (T2 K a ap f (ups g 1 (tq true true d ⟨0, 9, d.length, 0⟩)) u (v ++ [.credit])) := by
 have hb := d_big hd
 show Wd.came _ 1 (.eager _ d) = _
 rw [came1 (n := d.length) rfl hg]
 unfold Wd.mtch
 rw [T2.rq1_, hg]
 dsimp only
 rw [if_pos ⟨hb, by decide⟩, T2.setRq1]
 show Wd.put _ 1 0 _ = _
 rw [T2.put10 hv]
 congr 4
 unfold Rq.gets
 rw [if_neg (fun h => by have : (50 : Int) < d.length := h.2; omega)]
 rfl
theorem take_ask {a : Pr} {u v : List Pk} {n : Nat} (hv : v.length < big) (hg : g 1 = tq true false [] St.z) :
  (T2 K a { ap with rcvs := [1] } f g u v).handle 1 0 (.ask ⟨0, 0, 9, n, 0⟩ 1) = some (T2 K a { ap with exps := [((0, 1), 1)] } f (ups g 1 (tq true false [] ⟨0, 9, n, 0⟩)) u (v ++ [.clear 1])) := by
 show Wd.came _ 1 (.ask _ 1) = _
 rw [came1 (n := n) rfl hg]
 unfold Wd.mtch
 rw [T2.rq1_, hg]
 dsimp only
 rw [T2.setRq1, T2.pr1_, T2.setPr1]
 show Wd.put _ 1 0 _ = _
 rw [T2.put10 hv]
 rfl
theorem credit0 {b : Pr} {u v : List Pk} : (T2 K { ap with crds := [1, 0] } b f g u v).handle 0 1 .credit = some (T2 K ap b f g u v) := by
 unfold Wd.handle
 rw [T2.pr0_]
 dsimp only
 rw [if_pos (by decide), T2.setPr0]
 rfl
theorem clear0 {s : Bool} {b : Pr} {u v : List Pk} {st : St} (hu : u.length < big) (hf : f 1 = sq s true false d st) :
  (T2 K ap b f g u v).handle 0 1 (.clear 1) = some (T2 K ap b (ups f 1 (sq s true true d st)) g (u ++ [.body 1 d]) v) := by
 unfold Wd.handle
 dsimp only
 rw [T2.pr0_, T2.rq0_, show Int.toNat 1 = 1 from rfl, hf]
 unfold sq
 dsimp only
 rw [if_pos (by decide), if_pos rfl]
 show Option.map _ (Wd.put _ 0 1 (.body 1 d)) = _
 rw [T2.put01 hu]
 show some (Wd.setRq _ 0 1 _) = _
 rw [T2.setRq0, T2.rq0_]
 show some (T2 K ap b (ups f 1 { f 1 with done := true }) g _ v) = _
 rw [hf]
 rfl
theorem body1 {a : Pr} {u v : List Pk} {st : St} (hd : d.length ≤ 50) (hg : g 1 = tq true false [] st) :
  (T2 K a { ap with exps := [((0, 1), 1)] } f g u v).handle 1 0 (.body 1 d) = some (T2 K a ap f (ups g 1 (tq true true d st)) u v) := by
 have hb := d_big hd
 unfold Wd.handle
 rw [T2.pr1_]
 dsimp only
 rw [show kget [(((0 : Int), (1 : Int)), (1 : Nat))] (0, 1) = some 1 from rfl]
 dsimp only
 rw [T2.rq1_, hg, if_pos ⟨hb, by show (0 : Int) ≤ 50; decide⟩, T2.setRq1, T2.setPr1]
 have : (tq true false [] st).gets d = tq true true d st := by
  unfold Rq.gets
  rw [if_neg (fun h => by have : (50 : Int) < d.length := h.2; omega)]
  rfl
 rw [this]
 rfl
theorem handles1 {p : Nat} {w w' : Wd} {x : Int × Pk} (h : w.handle p x.1 x.2 = some w') : Wd.handles p w [x] = some w' := by
 unfold Wd.handles; rw [h]; rfl
theorem settle_eager (hd : d.length ≤ 50) (hg : g 1 = tq true false [] St.z) :
  Wd.Settles 1 (T2 K { ap with crds := [1, 0] } { ap with rcvs := [1] } f g [.eager ⟨0, 0, 9, d.length, 0⟩ d] []) (T2 K ap ap f (ups g 1 (tq true true d ⟨0, 9, d.length, 0⟩)) [] []) := by
 refine .more (w1 := T2 K { ap with crds := [1, 0] } ap f (ups g 1 (tq true true d ⟨0, 9, d.length, 0⟩)) [] [.credit]) (T2.rnd rfl rfl (by simp) (by simp) rfl ?_) T2.loud1 (.last (T2.rnd rfl rfl (by simp) (by simp) (handles1 credit0) (T2.rest1 rfl)) (T2.quiet rfl rfl))
 rw [T2.call1 rfl (by simp [big])]
 exact handles1 (take_eager (by simp [big]) hd hg)
theorem settle_ask {s : Bool} {st : St} (hd : d.length ≤ 50) (hf : f 1 = sq s true false d st) (hg : g 1 = tq true false [] St.z) :
   Wd.Settles 2 (T2 K ap { ap with rcvs := [1] } f g [.ask ⟨0, 0, 9, d.length, 0⟩ 1] []) (T2 K ap ap (ups f 1 (sq s true true d st)) (ups g 1 (tq true true d ⟨0, 9, d.length, 0⟩)) [] []) := by
 refine .more (w1 := T2 K ap { ap with exps := [((0, 1), 1)] } f (ups g 1 (tq true false [] ⟨0, 9, d.length, 0⟩)) [] [.clear 1]) (T2.rnd rfl rfl (by simp) (by simp) rfl ?_) T2.loud1 (.more (w1 := T2 K ap { ap with exps := [((0, 1), 1)] } (ups f 1 (sq s true true d st)) (ups g 1 (tq true false [] ⟨0, 9, d.length, 0⟩)) [.body 1 d] []) (T2.rnd rfl rfl (by simp) (by simp) (handles1 (clear0 (by simp [big]) hf)) (T2.rest1 rfl)) T2.loud0 (.last (T2.rnd rfl rfl (by simp) (by simp) rfl ?_) (T2.quiet rfl rfl)))
 · rw [T2.call1 rfl (by simp [big])]
   exact handles1 (take_ask (by simp [big]) hg)
 · rw [T2.call1 rfl (by simp [big])]
   refine (handles1 (body1 hd (ups_at _ _ _))).trans ?_
   rw [ups_ups]
theorem over0 {a b : Pr} {s : Bool} {dn : Bool} {u v : List Pk} {st : St} (hf : f 1 = sq s true dn d st) : (T2 K a b f g u v).over 0 1 = T2 K a b (ups f 1 (sq s false dn d st)) g u v := by
 unfold Wd.over
 rw [T2.rq0_, hf]
 unfold sq
 dsimp only
 rw [if_pos rfl, T2.setRq0]
theorem over1 {a b : Pr} {dn : Bool} {u v : List Pk} {st : St} (hg : g 1 = tq true dn d st) : (T2 K a b f g u v).over 1 1 = T2 K a b f (ups g 1 (tq false dn d st)) u v := by
 unfold Wd.over
 rw [T2.rq1_, hg]
 unfold tq
 dsimp only
 rw [if_pos rfl, T2.setRq1]
theorem lap_of {s dn dnx : Bool} {d0 : By} {st : St} {a' : Pr} {u : List Pk} {k : Nat} (hk : k < 2000) (ha : a'.reqs = [1]) (hg : g 1 = tq false dn d0 st)
   (h1 : (T2 K ap ap f g [] []).start 0 1 d = some (T2 K a' ap (ups f 1 (sq s true dnx d ⟨1, 9, d.length, 0⟩)) g u []))
   (h2 : Wd.Settles k (T2 K a' { ap with rcvs := [1] } (ups f 1 (sq s true dnx d ⟨1, 9, d.length, 0⟩)) (ups g 1 (tq true false [] St.z)) u []) (T2 K ap ap (ups f 1 (sq s true true d ⟨1, 9, d.length, 0⟩)) (ups g 1 (tq true true d ⟨0, 9, d.length, 0⟩)) [] [])) :
   ∃ W', Lap (T2 K ap ap f g [] []) d W' ∧ Ag K s W' := by
 refine ⟨_, ⟨⟨k, _, _, _, _, T2.rest0 rfl, h1, rfl, ?_, ?_, ?_, ?_, ?_, ?_, ?_, T2.rest1 rfl, start1 hg, rfl, hk, h2, rfl, ?_, ?_, T2.rest0 rfl, ?_, ?_, ?_, (over0 (ups_at _ _ _)).symm, rfl, ?_, ?_, T2.rest1 rfl, ?_, ?_, ?_, ?_, (over1 (ups_at _ _ _)).symm⟩⟩, ⟨_, _, _, _, _, _, _, _, ups_at _ _ _, ups_at _ _ _, rfl⟩⟩
 · show 1 ∈ a'.reqs; rw [ha]; exact List.mem_singleton.2 rfl
 · exact List.mem_singleton.2 rfl
 · rw [T2.rq0_, ups_at]; rfl
 · rw [T2.rq0_, ups_at]; rfl
 · rw [T2.rq1_, hg]; rfl
 · rw [T2.rq1_, hg]; rfl
 · rw [T2.rq1_, hg]; rfl
 · exact List.mem_singleton.2 rfl
 · rw [T2.rq0_, ups_at]; rfl
 · rw [T2.rq0_, ups_at]; rfl
 · rw [T2.rq0_, ups_at]; rfl
 · rw [T2.rq0_, ups_at]; rfl
 · exact List.mem_singleton.2 rfl
 · rw [T2.rq1_, ups_at]; rfl
 · rw [T2.rq1_, ups_at]; rfl
 · rw [T2.rq1_, ups_at]; rfl
 · rw [T2.rq1_, ups_at]; rfl
 · rw [T2.rq1_, ups_at]; rfl
end
theorem lap {K W : Wd} {s : Bool} (A : Ag K s W) {d : By} (hd : d.length ≤ 50) : ∃ W', Lap W d W' ∧ Ag K s W' := by
 obtain ⟨f, g, dn, d0, st, dn', d0', st', hf, hg, rfl⟩ := A
 by_cases he : s = false ∧ (d.length : Int) ≤ K.lim
 · obtain ⟨rfl, hl⟩ := he
   refine lap_of (k := 1) (by decide) rfl hg ((start0 hf hd).trans ((send_eager (by decide) (ups_at _ _ _) hl).trans (by rw [ups_ups]; rfl))) ((settle_eager hd (ups_at _ _ _)).cast ?_)
   rw [ups_ups]
 · refine lap_of (k := 2) (by decide) rfl hg ((start0 hf hd).trans (send_ask (by decide) (ups_at _ _ _) he)) ((settle_ask hd (ups_at _ _ _) (ups_at _ _ _)).cast ?_)
   rw [ups_ups, ups_ups]
theorem Ag.facts {K W : Wd} {s : Bool} (A : Ag K s W) : W.n = 2 ∧ (W.pr 0).reqs = [1] ∧ (W.pr 1).reqs = [1] ∧ (W.rq 0 1).pers = true ∧ (W.rq 0 1).act = false ∧ (W.rq 0 1).send = true ∧ (W.rq 1 1).pers = true ∧ (W.rq 1 1).act = false ∧ W.call 0 = some W ∧ W.call 1 = some W := by
 obtain ⟨f, g, dn, d0, st, dn', d0', st', hf, hg, rfl⟩ := A
 refine ⟨rfl, rfl, rfl, ?_, ?_, ?_, ?_, ?_, T2.rest0 rfl, T2.rest1 rfl⟩
 · rw [T2.rq0_, hf]; rfl
 · rw [T2.rq0_, hf]; rfl
 · rw [T2.rq0_, hf]; rfl
 · rw [T2.rq1_, hg]; rfl
 · rw [T2.rq1_, hg]; rfl
theorem Ag.freed {K W : Wd} {s : Bool} (A : Ag K s W) : ∃ Wa, Wa = W.setPr 0 { W.pr 0 with reqs := (W.pr 0).reqs.erase 1 } ∧ Wa.n = 2 ∧ 1 ∈ (Wa.pr 1).reqs ∧ (Wa.rq 1 1).pers = true ∧ (Wa.rq 1 1).act = false ∧ Wa.call 1 = some Wa ∧
   (Wa.setPr 1 { Wa.pr 1 with reqs := (Wa.pr 1).reqs.erase 1 }).n = 2 ∧ ∀ k, k ∈ ((Wa.setPr 1 { Wa.pr 1 with reqs := (Wa.pr 1).reqs.erase 1 }).pr 0).reqs → (k : Int) ≠ 1 := by
 obtain ⟨f, g, dn, d0, st, dn', d0', st', hf, hg, rfl⟩ := A
 refine ⟨_, T2.setPr0 _ |>.symm, rfl, List.mem_singleton.2 rfl, ?_, ?_, T2.rest1 rfl, rfl, fun k hk => ?_⟩
 · rw [T2.rq1_, hg]; rfl
 · rw [T2.rq1_, hg]; rfl
 · rw [T2.setPr1] at hk
   have hk : k ∈ [1].erase 1 := hk
   simp at hk
theorem Ag.born {W : Wd} {q : Rq} {e : Int} {s : Bool} (hW : W = ⟨e, 2, fun _ => ⟨1, [], [], [], [], [], [1, 1]⟩, fun _ _ => q, fun _ _ => []⟩) :
   ∃ K W1 W2, W.n = 2 ∧ (W.pr 0).reqs = [] ∧ W.call 0 = some W ∧ (W.pr 0).next = 1 ∧ W.add 0 { sq s false false [] St.z with no := 0 } = some W1 ∧ (W1.rq 0 1).no = 1 ∧ W1.n = 2 ∧ (W1.pr 1).reqs = [] ∧ W1.call 1 = some W1 ∧ (W1.pr 1).next = 1 ∧ W1.add 1 { tq false false [] St.z with no := 0 } = some W2 ∧ (W2.rq 1 1).no = 1 ∧ Ag K s W2 := by
 obtain ⟨K, hT⟩ : ∃ K, W = T2 K ⟨1, [], [], [], [], [], [1, 1]⟩ ⟨1, [], [], [], [], [], [1, 1]⟩ (fun _ => q) (fun _ => q) [] [] := by
   refine ⟨W, ?_⟩
   subst hW
   unfold T2
   dsimp only
   congr 1
   · funext p; split
     · rfl
     · split <;> rfl
   · funext p; split
     · rfl
     · split <;> rfl
   · funext i j; split
     · rfl
     · split <;> rfl
 have ha : ∀ (a b : Pr) (f g : Nat → Rq) (r : Rq), a.next = 1 → a.reqs = [] → (T2 K a b f g [] []).add 0 r = some (T2 K { a with next := 2, reqs := [1] } b (ups f 1 { r with no := 1 }) g [] []) := fun a b f g r h1 h2 => by
   unfold Wd.add
   rw [T2.pr0_, h1, h2, if_pos ⟨by decide, by simp⟩, T2.setPr0, T2.setRq0, T2.setPr0]
   rfl
 have hb : ∀ (a b : Pr) (f g : Nat → Rq) (r : Rq), b.next = 1 → b.reqs = [] → (T2 K a b f g [] []).add 1 r = some (T2 K a { b with next := 2, reqs := [1] } f (ups g 1 { r with no := 1 }) [] []) := fun a b f g r h1 h2 => by
   unfold Wd.add
   rw [T2.pr1_, h1, h2, if_pos ⟨by decide, by simp⟩, T2.setPr1, T2.setRq1, T2.setPr1]
   rfl
 clear hW
 subst hT
 refine ⟨K, _, _, rfl, rfl, T2.rest0 rfl, rfl, ha _ _ _ _ _ rfl rfl, ?_, rfl, rfl, T2.rest1 rfl, rfl, hb _ _ _ _ _ rfl rfl, ?_, ⟨_, _, _, _, _, _, _, _, ups_at _ _ _, ups_at _ _ _, rfl⟩⟩
 · rw [T2.rq0_, ups_at]
 · rw [T2.rq1_, ups_at]
end Go.Mt
namespace Go.Proofs.Ytmehemeoaplepaa
noncomputable section
open Go Go.X Go.Arm Go.Mt
theorem ev_bin {Q : Program} {n : Nat} {f : Fr} {h : AH} {o : Oper} {op : BinOp} {T T' : TypeId} {x y : Operand} {a b v : Value} (hop : o.op = .binOp op T x y T') (hx : ev n f x = some a) (hy : ev n f y = some b) (hv : aBin Q op T x y a b h = some v) : evVal Q n f h o.op = some v := by
 rw [hop]
 simp only [evVal, hx, hy]
 exact hv
theorem ev_conv {Q : Program} {n : Nat} {f : Fr} {h : AH} {o : Oper} {s d : TypeId} {x : Operand} {a v : Value} (hop : o.op = .convert s d x) (hx : ev n f x = some a) (hv : aConv Q s d a h = some v) : evVal Q n f h o.op = some v := by
 rw [hop]
 simp only [evVal, hx]
 exact hv
theorem works_ok {h : AH} : Arm.Calls Try.prog 8 [] h (fun r => r = (.bool true, h)) := ⟨_, eRun_known (P := Try.prog) rfl h rfl, fun a ha => by cases List.mem_singleton.1 ha; rfl⟩
theorem ints_bv (d : By) : X.intsOf (d.map bv) = some (d.map fun x => (x.toNat : Int)) := by
 induction d with
 | nil => rfl
 | cons x l ih => simp only [List.map_cons]; unfold bv X.intsOf; unfold bv at ih; rw [ih]
theorem ofNat_bv (d : By) : (d.map fun x => (x.toNat : Int)).map (fun n => UInt8.ofNat n.toNat) = d := by
 rw [List.map_map]
 refine (List.map_congr_left fun x _ => ?_).trans (List.map_id d)
 show UInt8.ofNat (((x.toNat : Nat) : Int).toNat) = x
 rw [Int.toNat_natCast]; exact UInt8.ofNat_toNat
theorem str_ok {h : AH} {v : Value} {d : By} (H : Rb h v (d.map bv)) : aConv Try.prog 23 9 v h = some (.string ⟨⟨d⟩⟩) := by
 have hS : Try.prog.underlying 23 = some (.slice 5) := by kernel_rfl
 have hD : Try.prog.underlying 9 = some .string := by kernel_rfl
 have hB : Try.prog.underlying 5 = some (.int .u8) := by kernel_rfl
 rcases H with ⟨h0, a, c, rfl, h1, h2⟩ | ⟨b, o, c, h0, h1, rfl, h2, h3⟩
 · have hd : d = [] := List.map_eq_nil_iff.1 h0
   subst hd
   cases a with
   | none =>
    obtain rfl := h1 rfl
    have : aConv Try.prog 23 9 (.slice none 0 0) h = some (.string ⟨⟨[]⟩⟩) := by kernel_rfl
    exact this
   | some q =>
    unfold aConv aB2S
    simp only [hS, hD, hB, if_true, X.intsOf]
    rfl
 · unfold aConv aB2S
   simp only [hS, hD, hB]
   have e0 : (d.map bv).length ≠ 0 := fun e => h0 (List.length_eq_zero_iff.1 e)
   rw [if_neg e0, if_neg h1, cells_r (d.map bv) 0 (fun j hj => by rw [Nat.zero_add]; exact h3 j hj)]
   simp only [ints_bv, ofNat_bv]
theorem str_nil {h : AH} : aConv Try.prog 23 9 (.slice none 0 0) h = some (.string ⟨⟨[]⟩⟩) := str_ok (d := []) Rb.nil
theorem eq_str {h : AH} {xo yo : Operand} (d : By) : aBin Try.prog .eql 9 xo yo (.string ⟨⟨d⟩⟩) (.string ⟨⟨d⟩⟩) h = some (.bool true) := by
 unfold aBin aStr
 simp
theorem eq_st (s : St) : pureRun Try.prog (Op.equal 43 (.agg ⟨[nv s.src, nv s.tag, nv s.size, nv s.err]⟩) (.agg ⟨[nv s.src, nv s.tag, nv s.size, nv s.err]⟩)) = some true := by
 have hu : ∃ f1 f2 f3 f4 : Field, Try.prog.underlying 43 = some (.struct ⟨[f1, f2, f3, f4]⟩) ∧ (f1.name ≠ "_" ∧ f2.name ≠ "_" ∧ f3.name ≠ "_" ∧ f4.name ≠ "_") ∧ (f1.type = 3 ∧ f2.type = 3 ∧ f3.type = 3 ∧ f4.type = 26) ∧ f1.offset = 0 ∧ f2.offset = 1 ∧ f3.offset = 2 ∧ f4.offset = 3 :=
  ⟨fld 43 0, fld 43 1, fld 43 2, fld 43 3, kr, ⟨by decide +kernel, by decide +kernel, by decide +kernel, by decide +kernel⟩, ⟨by kernel_rfl, kr, kr, kr⟩, kr, kr, kr, kr⟩
 obtain ⟨f1, f2, f3, f4, hu, ⟨n1, n2, n3, n4⟩, ⟨t1, t2, t3, t4⟩, o1, o2, o3, o4⟩ := hu
 have hi : Try.prog.underlying 3 = some (.int .i64) := by kernel_rfl
 have hj : Try.prog.underlying 26 = some (.int .i64) := by kernel_rfl
 have q1 : ∀ x : Int, pureRun Try.prog (Go.Op.equalIn 9999 3 (nv x) (nv x)) = some true := fun x => by
  have := eqIn_int (P := Try.prog) 9998 3 .i64 .i64 x x hi
  rw [show (x == x) = true by simp] at this
  exact this
 have q2 : ∀ x : Int, pureRun Try.prog (Go.Op.equalIn 9999 26 (nv x) (nv x)) = some true := fun x => by
  have := eqIn_int (P := Try.prog) 9998 26 .i64 .i64 x x hj
  rw [show (x == x) = true by simp] at this
  exact this
 unfold Go.Op.equal
 show pureRun _ (Go.Op.equalIn (9999 + 1) _ _ _) = _
 rw [Go.Op.equalIn]
 refine pureRun_and (pr_un hu) ?_
 dsimp only
 refine pureRun_and (e := program) (a := Try.prog) rfl ?_
 rw [if_neg (by decide +kernel)]
 rw [← Array.forIn_toList]
 simp only [List.forIn_cons, List.forIn_nil, n1, n2, n3, n4, t1, t2, t3, t4, o1, o2, o3, o4, if_true, ne_eq, not_false_eq_true]
 have p0 : ∀ a b c d : Value, pureRun Try.prog (part 3 ⟨[a, b, c, d]⟩ 0) = some a := fun a b c d => by kernel_rfl
 have p1 : ∀ a b c d : Value, pureRun Try.prog (part 3 ⟨[a, b, c, d]⟩ 1) = some b := fun a b c d => by kernel_rfl
 have p2 : ∀ a b c d : Value, pureRun Try.prog (part 3 ⟨[a, b, c, d]⟩ 2) = some c := fun a b c d => by kernel_rfl
 have p3 : ∀ a b c d : Value, pureRun Try.prog (part 26 ⟨[a, b, c, d]⟩ 3) = some d := fun a b c d => by kernel_rfl
 exact pureRun_and (a := (none, ())) (pureRun_and (a := ForInStep.yield (none, ())) (pureRun_and (p0 _ _ _ _) (pureRun_and (p0 _ _ _ _) (pureRun_and (q1 _) rfl))) (pureRun_and (a := ForInStep.yield (none, ())) (pureRun_and (p1 _ _ _ _) (pureRun_and (p1 _ _ _ _) (pureRun_and (q1 _) rfl)))
  (pureRun_and (a := ForInStep.yield (none, ())) (pureRun_and (p2 _ _ _ _) (pureRun_and (p2 _ _ _ _) (pureRun_and (q1 _) rfl))) (pureRun_and (a := ForInStep.yield (none, ())) (pureRun_and (p3 _ _ _ _) (pureRun_and (p3 _ _ _ _) (pureRun_and (q2 _) rfl))) rfl)))) rfl
theorem agg_eql (T : TypeId) (x y : Array Value) : binOp .eql T (.agg x) (.agg y) = (Go.Op.equal T (.agg x) (.agg y) >>= fun b => pure (.bool b)) := rfl
theorem eql_st (s : St) (h : AH) (xo yo : Operand) : aBin Try.prog .eql 43 xo yo (.agg ⟨[nv s.src, nv s.tag, nv s.size, nv s.err]⟩) (.agg ⟨[nv s.src, nv s.tag, nv s.size, nv s.err]⟩) h = some (.bool true) := by
 have hu : ∃ f : Array Field, Try.prog.underlying 43 = some (.struct f) := ⟨⟨[fld 43 0, fld 43 1, fld 43 2, fld 43 3]⟩, kr⟩
 obtain ⟨fsd, hu⟩ := hu
 have e1 : aBinV Try.prog .eql 43 (.agg ⟨[nv s.src, nv s.tag, nv s.size, nv s.err]⟩) (.agg ⟨[nv s.src, nv s.tag, nv s.size, nv s.err]⟩) h = none := by
  unfold aBinV aEqV
  simp only [hu]
 unfold aBin
 simp only [e1]
 have e2 : pureRun Try.prog (eqGuard .eql 43 xo yo (.agg ⟨[nv s.src, nv s.tag, nv s.size, nv s.err]⟩) (.agg ⟨[nv s.src, nv s.tag, nv s.size, nv s.err]⟩)) = some () := by kernel_rfl
 have e3 : pureRun Try.prog (binOp .eql 43 (.agg ⟨[nv s.src, nv s.tag, nv s.size, nv s.err]⟩) (.agg ⟨[nv s.src, nv s.tag, nv s.size, nv s.err]⟩)) = some (.bool true) := by
  rw [agg_eql]
  exact pureRun_and (a := true) (eq_st s) rfl
 have e4 : pureRun Try.prog (eqGuard .eql 43 xo yo (.agg ⟨[nv s.src, nv s.tag, nv s.size, nv s.err]⟩) (.agg ⟨[nv s.src, nv s.tag, nv s.size, nv s.err]⟩) >>= fun _ => binOp .eql 43 (.agg ⟨[nv s.src, nv s.tag, nv s.size, nv s.err]⟩) (.agg ⟨[nv s.src, nv s.tag, nv s.size, nv s.err]⟩)) = some (.bool true) := pureRun_and (a := ()) e2 e3
 have e5 : pfv (.agg ⟨[nv s.src, nv s.tag, nv s.size, nv s.err]⟩) = true := by kernel_rfl
 rw [e5]
 unfold aPure
 rw [if_pos (by rfl)]
 generalize hq : pureRun Try.prog _ = q
 have : q = some (.bool true) := by rw [← hq]; exact e4
 rw [this]
 rfl
theorem received_send {W : Wd} {G : Gh} {h : AH} {p no : Nat} {s : St} {W1 : Wd} (R : Rep W G h) (hp : p < W.n) (hm : no ∈ (W.pr p).reqs) (hact : (W.rq p no).act = true) (he1 : W.call p = some W1) (hdone : (W1.rq p no).done = true) (hsd : (W1.rq p no).send = true) (hst : (W1.rq p no).st = s) :
  Arm.Calls Try.prog 22 [ptr (G.B .wd), nv (p : Int), nv (no : Int), (.agg ⟨[nv s.src, nv s.tag, nv s.size, nv s.err]⟩), .string ⟨⟨[]⟩⟩] h (fun r => r.1 = .bool true ∧ Nxt (W1.over p no) G h r.2) := by
 refine Calls_of_W (n := 40) (fn := Try.f22) kr rfl rfl (Nat.le_of_ble_eq_true rfl) trivial ⟨.inr (by simp), rfl⟩ ?_
 have T0 : Sm Nix h h := .refl
 refine W_seq ?_
 refine W_region ?_
 refine L_nw (Al.cells [nv s.src, nv s.tag, nv s.size, nv s.err]) .ptr rfl rfl kr ?_
 have m300 : ¬ (Gh.mut G) h.next ∧ ¬ (Gh.ro G) h.next := ⟨(R.ext T0).op.new (Nat.le_refl _), (R.ext T0).op.newr (Nat.le_refl _)⟩
 have c300 : Cl (h.push (Al.cells [nv s.src, nv s.tag, nv s.size, nv s.err]).obj) h.next [nv s.src, nv s.tag, nv s.size, nv s.err] := Cl.new h _
 have t300 : Sm Nix h (h.push (Al.cells [nv s.src, nv s.tag, nv s.size, nv s.err]).obj) := .push h _
 have n300 : (h.push (Al.cells [nv s.src, nv s.tag, nv s.size, nv s.err]).obj).next = h.next + 1 := rfl
 generalize h.push (Al.cells [nv s.src, nv s.tag, nv s.size, nv s.err]).obj = h300 at c300 t300 n300 ⊢
 have T300 : Sm Nix h h300 := T0.ext t300
 have N300 := T300.nx
 refine L_g 1 kr ?_
 refine L_nil ?_
 refine W_seq ?_
 refine W_region ?_
 refine L_g 3 kr ?_
 refine L_c rfl rfl kr (test_send (R.ext T300) hp hm hact he1 hdone hsd) ?_
 rintro v301 h301 ⟨e301, N301⟩
 dsimp only at e301 N301
 rw [hst] at e301
 subst e301
 obtain ⟨S301, C301, ro301, R301, Y301⟩ := N301
 have X301 := ((Gx.refl).trans (Gx.of T300)).trans Y301
 have m300_301 : ¬ (Gh.mut ⟨Gh.B G, S301, C301, ro301⟩) (h.next) ∧ ¬ (Gh.ro ⟨Gh.B G, S301, C301, ro301⟩) (h.next) := ⟨fun hm => (Y301.mu _ hm).elim m300.1 (fun e => by have := c300.lt; omega), fun hm => (Y301.ron _ hm).elim m300.2 (fun e => by have := c300.lt; omega)⟩
 replace c300 := c300.sm Y301.sm m300.1
 have T301 : Sm (Ow h (⟨Gh.B G, S301, C301, ro301⟩ : Gh)) h301 h301 := .refl
 refine L_g 5 kr ?_
 refine L_nw (Al.cells [nv 0, nv 0, nv 0, nv 0]) .ptr rfl rfl kr ?_
 have m302 : ¬ (Gh.mut (⟨Gh.B G, S301, C301, ro301⟩ : Gh)) h301.next ∧ ¬ (Gh.ro (⟨Gh.B G, S301, C301, ro301⟩ : Gh)) h301.next := ⟨(R301.ow T301).op.new (Nat.le_refl _), (R301.ow T301).op.newr (Nat.le_refl _)⟩
 have l302_t8 := c300.lt
 have c302 : Cl (h301.push (Al.cells [nv 0, nv 0, nv 0, nv 0]).obj) h301.next [nv 0, nv 0, nv 0, nv 0] := Cl.new h301 _
 have t302 : Sm Nix h301 (h301.push (Al.cells [nv 0, nv 0, nv 0, nv 0]).obj) := .push h301 _
 have n302 : (h301.push (Al.cells [nv 0, nv 0, nv 0, nv 0]).obj).next = h301.next + 1 := rfl
 generalize h301.push (Al.cells [nv 0, nv 0, nv 0, nv 0]).obj = h302 at c302 t302 n302 ⊢
 replace c300 := c300.ext t302
 have T302 : Sm (Ow h (⟨Gh.B G, S301, C301, ro301⟩ : Gh)) h301 h302 := T301.ext t302
 have N302 := T302.nx
 obtain ⟨h303, e303, d303, t303, n303⟩ := Cl.storeN (P := Try.prog) (T := 43) (n := 4) (v := .agg ⟨[nv s.src, nv s.tag, nv s.size, nv s.err]⟩) (cs := [nv s.src, nv s.tag, nv s.size, nv s.err]) c302 rfl kr rfl rfl (List.all_eq_true.1 rfl)
 replace c300 := c300.sm t303 (show ¬ _ = _ by omega)
 replace c302 := d303
 have T303 : Sm (Ow h (⟨Gh.B G, S301, C301, ro301⟩ : Gh)) h301 h303 := T302.trans t303 (fun x hx => by have hx : x = h301.next := hx; subst hx; first | exact .inr (by omega) | exact .inl ⟨by omega, m302.1, m302.2⟩ | exact .inl rfl)
 have N303 := T303.nx
 refine L_st _ rfl rfl rfl kr kr (e303) ?_
 refine L_g 3 kr ?_
 refine L_nil ?_
 refine W_seq ?_
 refine W_region ?_
 refine L_g 3 kr ?_
 refine L_want kr ?_
 refine L_p (.bool true) rfl kr ?_
 refine L_g 2 kr ?_
 refine L_want kr ?_
 refine L_ld _ rfl rfl kr (Cl.allN (n := 4) c302 rfl kr) ?_
 refine L_want kr ?_
 refine L_ld _ rfl rfl kr (Cl.allN (n := 4) c300 rfl kr) ?_
 refine L_want kr ?_
 refine L_p (.bool true) rfl (ev_bin (o := _) rfl kr kr (eql_st s _ _ _)) ?_
 refine L_g 3 kr ?_
 refine L_want kr ?_
 refine L_p (.string ⟨⟨[]⟩⟩) rfl (ev_conv (o := _) rfl kr str_nil) ?_
 refine L_g 1 kr ?_
 refine L_want kr ?_
 refine L_p (.bool true) rfl (ev_bin (o := _) rfl kr kr (eq_str [])) ?_
 refine L_g 2 kr ?_
 refine L_nil ?_
 refine W_ret ?_
 repeat first | with_reducible refine then_ret ?_ | with_reducible refine blk_ret ?_
 refine done_of (v := .bool true) (.inl rfl) kr ?_
 exact ⟨rfl, _, _, _, (R301.ow T303), ((X301).ow T303)⟩
theorem received_recv {W : Wd} {G : Gh} {h : AH} {p no : Nat} {s : St} {d : By} {W1 : Wd} (R : Rep W G h) (hp : p < W.n) (hm : no ∈ (W.pr p).reqs) (hact : (W.rq p no).act = true) (he1 : W.call p = some W1) (hdone : (W1.rq p no).done = true) (hsd : (W1.rq p no).send = false) (hst : (W1.rq p no).st = s) (hda : (W1.rq p no).data = d) (hdl : d.length < big) :
  Arm.Calls Try.prog 22 [ptr (G.B .wd), nv (p : Int), nv (no : Int), (.agg ⟨[nv s.src, nv s.tag, nv s.size, nv s.err]⟩), .string ⟨⟨d⟩⟩] h (fun r => r.1 = .bool true ∧ Nxt (W1.over p no) G h r.2) := by
 refine Calls_of_W (n := 40) (fn := Try.f22) kr rfl rfl (Nat.le_of_ble_eq_true rfl) trivial ⟨.inr (by simp), rfl⟩ ?_
 have T0 : Sm Nix h h := .refl
 refine W_seq ?_
 refine W_region ?_
 refine L_nw (Al.cells [nv s.src, nv s.tag, nv s.size, nv s.err]) .ptr rfl rfl kr ?_
 have m304 : ¬ (Gh.mut G) h.next ∧ ¬ (Gh.ro G) h.next := ⟨(R.ext T0).op.new (Nat.le_refl _), (R.ext T0).op.newr (Nat.le_refl _)⟩
 have c304 : Cl (h.push (Al.cells [nv s.src, nv s.tag, nv s.size, nv s.err]).obj) h.next [nv s.src, nv s.tag, nv s.size, nv s.err] := Cl.new h _
 have t304 : Sm Nix h (h.push (Al.cells [nv s.src, nv s.tag, nv s.size, nv s.err]).obj) := .push h _
 have n304 : (h.push (Al.cells [nv s.src, nv s.tag, nv s.size, nv s.err]).obj).next = h.next + 1 := rfl
 generalize h.push (Al.cells [nv s.src, nv s.tag, nv s.size, nv s.err]).obj = h304 at c304 t304 n304 ⊢
 have T304 : Sm Nix h h304 := T0.ext t304
 have N304 := T304.nx
 refine L_g 1 kr ?_
 refine L_nil ?_
 refine W_seq ?_
 refine W_region ?_
 refine L_g 3 kr ?_
 refine L_c rfl rfl kr (test_recv (R.ext T304) hp hm hact he1 hdone hsd (by rw [hda]; exact hdl)) ?_
 rintro v305 h305 ⟨vd, e305, HD, N305⟩
 dsimp only at e305 HD N305
 rw [hst] at e305
 rw [hda] at HD
 subst e305
 obtain ⟨S305, C305, ro305, R305, Y305⟩ := N305
 have X305 := ((Gx.refl).trans (Gx.of T304)).trans Y305
 have m304_305 : ¬ (Gh.mut ⟨Gh.B G, S305, C305, ro305⟩) (h.next) ∧ ¬ (Gh.ro ⟨Gh.B G, S305, C305, ro305⟩) (h.next) := ⟨fun hm => (Y305.mu _ hm).elim m304.1 (fun e => by have := c304.lt; omega), fun hm => (Y305.ron _ hm).elim m304.2 (fun e => by have := c304.lt; omega)⟩
 replace c304 := c304.sm Y305.sm m304.1
 have T305 : Sm (Ow h (⟨Gh.B G, S305, C305, ro305⟩ : Gh)) h305 h305 := .refl
 refine L_g 5 kr ?_
 refine L_nw (Al.cells [nv 0, nv 0, nv 0, nv 0]) .ptr rfl rfl kr ?_
 have m306 : ¬ (Gh.mut (⟨Gh.B G, S305, C305, ro305⟩ : Gh)) h305.next ∧ ¬ (Gh.ro (⟨Gh.B G, S305, C305, ro305⟩ : Gh)) h305.next := ⟨(R305.ow T305).op.new (Nat.le_refl _), (R305.ow T305).op.newr (Nat.le_refl _)⟩
 have l306_t8 := c304.lt
 have c306 : Cl (h305.push (Al.cells [nv 0, nv 0, nv 0, nv 0]).obj) h305.next [nv 0, nv 0, nv 0, nv 0] := Cl.new h305 _
 have t306 : Sm Nix h305 (h305.push (Al.cells [nv 0, nv 0, nv 0, nv 0]).obj) := .push h305 _
 have n306 : (h305.push (Al.cells [nv 0, nv 0, nv 0, nv 0]).obj).next = h305.next + 1 := rfl
 generalize h305.push (Al.cells [nv 0, nv 0, nv 0, nv 0]).obj = h306 at c306 t306 n306 ⊢
 replace c304 := c304.ext t306
 have T306 : Sm (Ow h (⟨Gh.B G, S305, C305, ro305⟩ : Gh)) h305 h306 := T305.ext t306
 have N306 := T306.nx
 have HL : ∀ b, vb vd = some b → b < h305.next := fun b hb => HD.lt hb
 replace HD := HD.ext t306
 obtain ⟨h307, e307, d307, t307, n307⟩ := Cl.storeN (P := Try.prog) (T := 43) (n := 4) (v := .agg ⟨[nv s.src, nv s.tag, nv s.size, nv s.err]⟩) (cs := [nv s.src, nv s.tag, nv s.size, nv s.err]) c306 rfl kr rfl rfl (List.all_eq_true.1 rfl)
 replace c304 := c304.sm t307 (show ¬ _ = _ by omega)
 replace c306 := d307
 have T307 : Sm (Ow h (⟨Gh.B G, S305, C305, ro305⟩ : Gh)) h305 h307 := T306.trans t307 (fun x hx => by have hx : x = h305.next := hx; subst hx; first | exact .inr (by omega) | exact .inl ⟨by omega, m306.1, m306.2⟩ | exact .inl rfl)
 have N307 := T307.nx
 refine L_st _ rfl rfl rfl kr kr (e307) ?_
 replace HD := HD.sm t307 (fun b hb e => by have := HL b hb; first | omega | (cases e; omega))
 refine L_g 3 kr ?_
 refine L_nil ?_
 refine W_seq ?_
 refine W_region ?_
 refine L_g 3 kr ?_
 refine L_want kr ?_
 refine L_p (.bool true) rfl kr ?_
 refine L_g 2 kr ?_
 refine L_want kr ?_
 refine L_ld _ rfl rfl kr (Cl.allN (n := 4) c306 rfl kr) ?_
 refine L_want kr ?_
 refine L_ld _ rfl rfl kr (Cl.allN (n := 4) c304 rfl kr) ?_
 refine L_want kr ?_
 refine L_p (.bool true) rfl (ev_bin (o := _) rfl kr kr (eql_st s _ _ _)) ?_
 refine L_g 3 kr ?_
 refine L_want kr ?_
 refine L_p (.string ⟨⟨d⟩⟩) rfl (ev_conv (o := _) rfl kr (str_ok HD)) ?_
 refine L_g 1 kr ?_
 refine L_want kr ?_
 refine L_p (.bool true) rfl (ev_bin (o := _) rfl kr kr (eq_str d)) ?_
 refine L_g 2 kr ?_
 refine L_nil ?_
 refine W_ret ?_
 repeat first | with_reducible refine then_ret ?_ | with_reducible refine blk_ret ?_
 refine done_of (v := .bool true) (.inl rfl) kr ?_
 exact ⟨rfl, _, _, _, (R305.ow T307), ((X305).ow T307)⟩
end
end Go.Proofs.Ytmehemeoaplepaa
namespace Go.Proofs.Ytmehemeoaplepaa
noncomputable section
open Go Go.X Go.Arm Go.Mt
structure Old (h0 : AH) (G : Gh) (h : AH) : Prop where
 sm : Sm (fun b => h0.next ≤ b) h0 h
 mu : ∀ b, G.mut b → h0.next ≤ b
section
variable {h0 h h' : AH} {G G' : Gh} {v : Value} {cs : List Value} {n k : Nat}
theorem Old.go (O : Old h0 G h) (X : Gx G h G' h') : Old h0 G' h' := ⟨O.sm.then (X.sm.mono fun b hb => O.mu b hb), fun b hb => (X.mu b hb).elim (O.mu b) fun e => Nat.le_trans O.sm.nx e⟩
theorem Old.rb (O : Old h0 G h) (H : Rb h0 v cs) : Rb h v cs := H.sm O.sm fun b hb hs => by
 have e1 := H.lt hb
 have e2 : h0.next ≤ b := hs
 omega
theorem Old.sd (O : Old h0 G h) (H : Sd h0 k v n cs) : Sd h k v n cs := H.sm O.sm fun b hb hs => by
 have e1 := H.lt hb
 have e2 : h0.next ≤ b := hs
 omega
theorem Old.nm (O : Old h0 G h) (H : Rb h0 v cs) : ∀ b, vb v = some b → ¬ G.mut b := fun b hb hm => by
 have e1 := H.lt hb
 have e2 := O.mu b hm
 omega
end
theorem len_by {h : AH} {v : Value} {d : By} (H : Rb h v (d.map bv)) : aLen Try.prog 23 v h = some (nv (d.length : Int)) := by
 have := H.len (P := Try.prog) (T := 23) (el := 5) kr
 rw [List.length_map] at this
 exact this
theorem u8mod {x : Int} (hx : 0 ≤ x ∧ x < 256) (d : Int) (hd : 0 < d) : Int.tmod (IntKind.i64.wrap x) d = ((x.toNat % d.toNat : Nat) : Int) := by
 have e : IntKind.i64.wrap x = x := by rw [IntKind.wrap_i64]; omega
 rw [e, Int.tmod_eq_emod_of_nonneg hx.1, Int.natCast_emod]
 rw [Int.toNat_of_nonneg hx.1, Int.toNat_of_nonneg (by omega)]
theorem rem_ok {x : Int} (hx : 0 ≤ x ∧ x < 256) (d : Nat) (hd : 0 < d) {E : Nat} (hE : x.toNat % d = E) {h : AH} {xo yo : Operand} (hr : aBin Try.prog .rem 3 xo yo (.int .i64 (IntKind.i64.wrap x)) (nv (d : Int)) h = some (nv (Int.tmod (IntKind.i64.wrap x) (d : Int)))) : aBin Try.prog .rem 3 xo yo (.int .i64 (IntKind.i64.wrap x)) (nv (d : Int)) h = some (nv (E : Int)) := by
 rw [hr, u8mod hx d (by omega), Int.toNat_natCast, hE]
theorem settle2 {W : Wd} {G : Gh} {h : AH} {k : Nat} {W' : Wd} (R : Rep W G h) (hn : W.n = 2) (hk : k < 2000) (hs : Wd.Settles k W W') :
  Arm.Calls Try.prog 14 [ptr (G.B .wd), nv 2] h (fun r => r.1 = .bool true ∧ Nxt W' G h r.2) := by
 have := settle_ok R (by rw [hn]; decide) hk hs
 rw [hn] at this
 exact this
theorem el_ok {h : AH} {v : Value} {n i : Nat} {V : Nat → Value} (H : Sd h 1 v n ((List.range n).map V)) (hi : i < n) : ∃ b o, aIndex Try.prog 65 v (nv (i : Int)) = some (.pointer (some ⟨b, o, none⟩)) ∧ aLoad Try.prog 23 ⟨b, o, none⟩ h = some (V i) := by
 obtain ⟨b, o, _, h1, h2⟩ := H.at (P := Try.prog) (T := 65) (el := 23) kr kr hi .i64
 refine ⟨b, o, h1, ld_cell kr ?_⟩
 have := h2 0 (by decide)
 rw [Nat.add_zero, Nat.mul_one, Nat.add_zero, List.getElem?_map, List.getElem?_range hi] at this
 exact this
set_option maxHeartbeats 2000000 in
theorem again_ok {h : AH} {x : Int} {s : Bool} {lv : Value} {n : Nat} {V : Nat → Value} {L : Nat → By} (hx : 0 ≤ x ∧ x < 256) (Hl : Sd h 1 lv n ((List.range n).map V)) (hL : ∀ i, i < n → Rb h (V i) ((L i).map bv)) :
  Arm.Calls Try.prog 7 [.int .u8 x, .bool s, lv] h (fun r => r.1 = .bool true) := by
 obtain ⟨E, hE⟩ : ∃ E, x.toNat % 60 = E := ⟨_, rfl⟩
 have hE9 : E < 60 := by rw [← hE]; exact Nat.mod_lt _ (by decide)
 refine Calls_of_W (n := 137) (fn := Try.f7) kr rfl rfl (Nat.le_of_ble_eq_true rfl) trivial ⟨.inr (by simp), rfl⟩ ?_
 have T0 : Sm Nix h h := .refl
 refine W_seq ?_
 refine W_region ?_
 refine L_g 1 kr ?_
 refine L_nil ?_
 refine W_seq ?_
 refine W_seq ?_
 by_cases h20 : 20 < n
 ·
  refine W_region ?_
  refine L_g 1 kr ?_
  refine L_ln _ rfl rfl kr (Sd.len (P := Try.prog) (T := 65) (el := 23) kr (Hl.ext T0)) ?_
  refine L_i ((n : Int)) (20) (.bool true) rfl rfl kr kr rfl (by simp; omega) ?_
  refine L_nil ?_
  refine W_cond true kr (fun _ => ?_) (fun e => by cases e)
  refine W_seq ?_
  refine W_region ?_
  refine L_c rfl rfl kr (works_ok) ?_
  rintro vw hw ew
  cases ew
  refine L_g 1 kr ?_
  refine L_nil ?_
  refine W_ret ?_
  repeat first | with_reducible refine then_ret ?_ | with_reducible refine blk_ret ?_
  refine done_of (v := .bool true) (.inl rfl) kr ?_
  exact rfl
 ·
  refine W_region ?_
  refine L_g 1 kr ?_
  refine L_ln _ rfl rfl kr (Sd.len (P := Try.prog) (T := 65) (el := 23) kr (Hl.ext T0)) ?_
  refine L_i ((n : Int)) (20) (.bool false) rfl rfl kr kr rfl (by simp; omega) ?_
  refine L_nil ?_
  refine W_cond false kr (fun e => by cases e) (fun _ => ?_)
  refine W_skip ?_
  refine W_seq ?_
  refine W_region ?_
  refine L_g 2 kr ?_
  refine L_p (nv (E : Int)) rfl (ev_bin (o := _) rfl kr kr (rem_ok hx 60 (by decide) hE kr)) ?_
  refine L_c rfl rfl kr (new_ok (n := 2) (e := (E : Int)) (c := 1) (.inr (.inl rfl)) (by omega) (by omega) (by decide) (by decide)) ?_
  rintro v308 h308 ⟨G308, e308, R308, Z308, t308⟩
  dsimp only at e308 R308 Z308 t308
  subst e308
  have O308 : Old h G308 h308 := ⟨t308.mono (fun _ x => x.elim), fun b hb => Z308 b (.inl hb)⟩
  obtain ⟨K, W1, W2, n0, q0, c0, x0, a0, u0, n1, q1, c1, x1, a1, u1, A2⟩ := Ag.born (W := Wd.new 2 (E : Int) 1) (q := rq0) (e := (E : Int)) (s := s) rfl
  have T308 : Sm Nix h308 h308 := .refl
  refine L_g 5 kr ?_
  refine L_nil ?_
  refine W_seq ?_
  refine W_seq ?_
  refine W_region ?_
  refine L_g 2 kr ?_
  refine L_nil ?_
  refine W_cond false kr (fun e => by cases e) (fun _ => ?_)
  refine W_skip ?_
  refine W_seq ?_
  refine W_region ?_
  refine L_g 2 kr ?_
  refine L_c rfl rfl kr (pers_send (p := 0) (q := 1) (ctx := 0) (tag := 9) (sync := s) (R308.ext T308) (by rw [n0]; decide) (by rw [n0]; decide) (by decide) (by decide) (by decide) (by decide) (by rw [q0]; decide) c0 a0) ?_
  rintro v309 h309 ⟨e309, b309, S309, C309, ro309, R309, Y309⟩
  dsimp only at e309 R309 Y309
  rw [x0] at e309 R309 Y309
  rw [u0] at e309
  subst e309
  have O309 := ((O308).go (Gx.of T308)).go Y309
  have T309 : Sm Nix h309 h309 := .refl
  refine L_g 5 kr ?_
  refine L_nil ?_
  refine W_seq ?_
  refine W_region ?_
  refine L_g 1 kr ?_
  refine L_c rfl rfl kr (pers_recv_a (p := 1) (q := 0) (ctx := 0) (room := 50) (R309.ext T309) (by rw [n1]; decide) (by rw [n1]; decide) (by decide) (by decide) (by decide) (by decide) (by rw [q1]; decide) c1 a1) ?_
  rintro v310 h310 ⟨e310, b310, S310, C310, ro310, R310, Y310⟩
  dsimp only at e310 R310 Y310
  rw [x1] at e310 R310 Y310
  rw [u1] at e310
  subst e310
  have O310 := ((O309).go (Gx.of T309)).go Y310
  have T310 : Sm Nix h310 h310 := .refl
  refine L_g 5 kr ?_
  refine L_nil ?_
  refine W_seq ?_
  refine W_seq ?_
  refine W_region ?_
  refine L_g 6 kr ?_
  refine L_nil ?_
  refine W_cond false kr (fun e => by cases e) (fun _ => ?_)
  refine W_skip ?_
  refine W_seq ?_
  refine W_seq ?_
  refine W_region ?_
  refine L_g 1 kr ?_
  refine L_ln _ rfl rfl kr (Sd.len (P := Try.prog) (T := 65) (el := 23) kr ((O310).sd Hl)) ?_
  refine L_g 1 kr ?_
  refine L_nil ?_
  refine W_block ?_
  refine W_loop (fun mm fr hh => ∃ (i : Nat) (W : Wd) (G : Gh), mm = n - i ∧ i ≤ n ∧ Ag K s W ∧ Rep W G hh ∧ Old h G hh ∧ fr 7 = ptr (G.B .wd) ∧ fr 9 = nv 1 ∧ fr 10 = nv 1 ∧ fr 48 = lv ∧ fr 49 = nv (n : Int) ∧ fr 50 = nv (i : Int)) (n) ?_ ?_
  ·
   exact ⟨0, W2, (⟨ups (Gh.B (⟨ups (Gh.B G308) (.rq 0 1) b309, S309, C309, ro309⟩ : Gh)) (.rq 1 1) b310, S310, C310, ro310⟩ : Gh), rfl, Nat.zero_le _, A2, (R310.ext T310), O310, kr, kr, kr, kr, kr, kr⟩
  rintro mm fr h ⟨i, W, G, hmm, hin, A, R, O, y7, y9, y10, y48, y49, y50⟩
  refine W_set (k := 7) y7 ?_
  refine W_set (k := 9) y9 ?_
  refine W_set (k := 10) y10 ?_
  refine W_set (k := 48) y48 ?_
  refine W_set (k := 49) y49 ?_
  refine W_set (k := 50) y50 ?_
  obtain ⟨an, ar0, ar1, ap0, aa0, as0, ap1, aa1, ac0, ac1⟩ := A.facts
  have Ta : Sm Nix h h := .refl
  refine W_seq ?_
  refine W_region ?_
  refine L_i ((i : Int)) ((n : Int)) (.bool (decide ((i : Int) < (n : Int)))) rfl rfl kr kr rfl (rfl) ?_
  refine L_nil ?_
  refine W_seq ?_
  refine W_cond (decide ((i : Int) < (n : Int))) kr (fun hb => ?_) (fun hb => ?_)
  ·
   have hlt : i < n := by simp at hb; omega
   have Hi := hL i hlt
   obtain ⟨b9, o9, i9, l9⟩ := el_ok (O.sd Hl) hlt
   refine W_skip ?_
   refine W_seq ?_
   refine W_block ?_
   refine W_seq ?_
   refine W_region ?_
   refine L_ix _ rfl rfl kr kr (i9) ?_
   refine L_ld _ rfl rfl kr (l9) ?_
   refine L_g 1 kr ?_
   refine L_nil ?_
   refine W_seq ?_
   refine W_seq ?_
   by_cases h50 : 50 < (L i).length
   ·
    refine W_region ?_
    refine L_g 1 kr ?_
    refine L_ln _ rfl rfl kr (len_by (O.rb Hi)) ?_
    refine L_i (((L i).length : Int)) (50) (.bool true) rfl rfl kr kr rfl (by simp; omega) ?_
    refine L_nil ?_
    refine W_cond true kr (fun _ => ?_) (fun e => by cases e)
    refine W_seq ?_
    refine W_region ?_
    refine L_c rfl rfl kr (works_ok) ?_
    rintro vw hw ew
    cases ew
    refine L_g 1 kr ?_
    refine L_nil ?_
    refine W_ret ?_
    repeat first | with_reducible refine then_ret ?_ | with_reducible refine blk_ret ?_
    refine done_of (v := .bool true) (.inl rfl) kr ?_
    exact rfl
   ·
    obtain ⟨W9, ⟨⟨k9, Wb, Wc, We, Wf, z1, z2, z3, z4, z5, z6, z7, z8, z9, z10, z11, z12, z13, z14, z15, z16, z17, z18, z19, z20, z21, z22, z23, z24, z25, z26, z27, z28, z29, z30, z31, z32⟩⟩, A9⟩ := lap A (d := L i) (by omega)
    subst z23 z32
    have hb9 := d_big (d := L i) (by omega)
    refine W_region ?_
    refine L_g 1 kr ?_
    refine L_ln _ rfl rfl kr (len_by (O.rb Hi)) ?_
    refine L_i (((L i).length : Int)) (50) (.bool false) rfl rfl kr kr rfl (by simp; omega) ?_
    refine L_nil ?_
    refine W_cond false kr (fun e => by cases e) (fun _ => ?_)
    refine W_skip ?_
    refine W_seq ?_
    refine W_region ?_
    refine L_g 2 kr ?_
    refine L_c rfl rfl kr (test_act (p := 1) (no := 1) (R.ext Ta) (by rw [an]; decide) (by rw [ar1]; exact List.mem_singleton.2 rfl) aa1) ?_
    rintro v311 h311 ⟨e311, t311⟩
    try dsimp only at e311
    try dsimp only at t311
    subst e311
    have T311 : Sm Nix h h311 := Ta.ext t311
    have N311 := T311.nx
    have M311 := t311.nx
    refine L_g 5 kr ?_
    refine L_nw (Al.cells [nv 0, nv 0, nv 0, nv 0]) .ptr rfl rfl kr ?_
    have m312 : ¬ (Gh.mut G) h311.next ∧ ¬ (Gh.ro G) h311.next := ⟨(R.ext T311).op.new (Nat.le_refl _), (R.ext T311).op.newr (Nat.le_refl _)⟩
    have c312 : Cl (h311.push (Al.cells [nv 0, nv 0, nv 0, nv 0]).obj) h311.next [nv 0, nv 0, nv 0, nv 0] := Cl.new h311 _
    have t312 : Sm Nix h311 (h311.push (Al.cells [nv 0, nv 0, nv 0, nv 0]).obj) := .push h311 _
    have n312 : (h311.push (Al.cells [nv 0, nv 0, nv 0, nv 0]).obj).next = h311.next + 1 := rfl
    generalize h311.push (Al.cells [nv 0, nv 0, nv 0, nv 0]).obj = h312 at c312 t312 n312 ⊢
    have T312 : Sm Nix h h312 := T311.ext t312
    have N312 := T312.nx
    obtain ⟨h313, e313, d313, t313, n313⟩ := Cl.storeN (P := Try.prog) (T := 43) (n := 4) (v := .agg ⟨[nv 0, nv 0, nv 0, nv 0]⟩) (cs := [nv 0, nv 0, nv 0, nv 0]) c312 rfl kr rfl rfl (List.all_eq_true.1 rfl)
    replace c312 := d313
    have T313 : Sm Nix h h313 := T312.trans t313 (fun x hx => by have hx : x = h311.next := hx; first | exact .inr (by omega) | exact .inl (by subst hx; first | rfl | exact .inl rfl | exact .inr rfl | exact .inr (.inl rfl) | exact .inr (.inr rfl) | (show _ < _; omega)))
    have N313 := T313.nx
    refine L_st _ rfl rfl rfl kr kr (e313) ?_
    refine L_g 3 kr ?_
    refine L_nil ?_
    refine W_seq ?_
    refine W_seq ?_
    refine W_region ?_
    refine L_g 6 kr ?_
    refine L_want kr ?_
    refine L_c rfl rfl kr (startf_send (p := 0) (no := 1) (d := L i) (R.ext T313) (by rw [an]; decide) (by rw [ar0]; exact List.mem_singleton.2 rfl) ap0 aa0 as0 (by omega) ((O.go ((Gx.refl).trans (Gx.of T313))).rb Hi) ((O.go ((Gx.refl).trans (Gx.of T313))).nm Hi) ac0 z2) ?_
    rintro v314 h314 ⟨e314, N314⟩
    dsimp only at e314 N314
    subst e314
    obtain ⟨S314, C314, ro314, R314, Y314⟩ := N314
    have X314 := ((Gx.refl).trans (Gx.of T313)).trans Y314
    have m312_314 : ¬ (Gh.mut ⟨Gh.B G, S314, C314, ro314⟩) (h311.next) ∧ ¬ (Gh.ro ⟨Gh.B G, S314, C314, ro314⟩) (h311.next) := ⟨fun hm => (Y314.mu _ hm).elim m312.1 (fun e => by have := c312.lt; omega), fun hm => (Y314.ron _ hm).elim m312.2 (fun e => by have := c312.lt; omega)⟩
    replace c312 := c312.sm Y314.sm m312.1
    have T314 : Sm (Ow h (⟨Gh.B G, S314, C314, ro314⟩ : Gh)) h314 h314 := .refl
    refine L_g 6 kr ?_
    refine L_want kr ?_
    refine L_c rfl rfl kr (startf_act (p := 0) (no := 1) (s := V i) (R314.ow T314) (by rw [z3]; decide) z4 z6 z7) ?_
    rintro v315 h315 ⟨e315, t315⟩
    try dsimp only at e315
    try dsimp only at t315
    subst e315
    replace c312 := c312.ext t315
    have T315 : Sm (Ow h (⟨Gh.B G, S314, C314, ro314⟩ : Gh)) h314 h315 := T314.ext t315
    have N315 := T315.nx
    have M315 := t315.nx
    refine L_g 5 kr ?_
    refine L_want kr ?_
    refine L_c rfl rfl kr (free_act (p := 0) (no := 1) (R314.ow T315) (by rw [z3]; decide) z4 z6 z7) ?_
    rintro v316 h316 ⟨e316, t316⟩
    try dsimp only at e316
    try dsimp only at t316
    subst e316
    replace c312 := c312.ext t316
    have T316 : Sm (Ow h (⟨Gh.B G, S314, C314, ro314⟩ : Gh)) h314 h316 := T315.ext t316
    have N316 := T316.nx
    have M316 := t316.nx
    refine L_g 5 kr ?_
    refine L_want kr ?_
    refine L_c rfl rfl kr (startf_recv (p := 1) (no := 1) (d := []) (R314.ow T316) (by rw [z3]; decide) z5 z8 z9 z10 (by decide) rfl Rb.nil (fun b hb => by cases hb) z11 z12) ?_
    rintro v317 h317 ⟨e317, N317⟩
    dsimp only at e317 N317
    subst e317
    obtain ⟨S317, C317, ro317, R317, Y317⟩ := N317
    have X317 := ((X314).ow T316).trans Y317
    have m312_314_317 : ¬ (Gh.mut ⟨Gh.B (⟨Gh.B G, S314, C314, ro314⟩ : Gh), S317, C317, ro317⟩) (h311.next) ∧ ¬ (Gh.ro ⟨Gh.B (⟨Gh.B G, S314, C314, ro314⟩ : Gh), S317, C317, ro317⟩) (h311.next) := ⟨fun hm => (Y317.mu _ hm).elim m312_314.1 (fun e => by have := c312.lt; omega), fun hm => (Y317.ron _ hm).elim m312_314.2 (fun e => by have := c312.lt; omega)⟩
    replace c312 := c312.sm Y317.sm m312_314.1
    have T317 : Sm (Ow h (⟨Gh.B (⟨Gh.B G, S314, C314, ro314⟩ : Gh), S317, C317, ro317⟩ : Gh)) h317 h317 := .refl
    refine L_g 4 kr ?_
    refine L_want kr ?_
    refine L_c rfl rfl kr (settle2 (R317.ow T317) z13 z14 z15) ?_
    rintro v318 h318 ⟨e318, N318⟩
    dsimp only at e318 N318
    subst e318
    obtain ⟨S318, C318, ro318, R318, Y318⟩ := N318
    have X318 := ((X317).ow T317).trans Y318
    have m312_314_317_318 : ¬ (Gh.mut ⟨Gh.B (⟨Gh.B (⟨Gh.B G, S314, C314, ro314⟩ : Gh), S317, C317, ro317⟩ : Gh), S318, C318, ro318⟩) (h311.next) ∧ ¬ (Gh.ro ⟨Gh.B (⟨Gh.B (⟨Gh.B G, S314, C314, ro314⟩ : Gh), S317, C317, ro317⟩ : Gh), S318, C318, ro318⟩) (h311.next) := ⟨fun hm => (Y318.mu _ hm).elim m312_314_317.1 (fun e => by have := c312.lt; omega), fun hm => (Y318.ron _ hm).elim m312_314_317.2 (fun e => by have := c312.lt; omega)⟩
    replace c312 := c312.sm Y318.sm m312_314_317.1
    have T318 : Sm (Ow h (⟨Gh.B (⟨Gh.B (⟨Gh.B G, S314, C314, ro314⟩ : Gh), S317, C317, ro317⟩ : Gh), S318, C318, ro318⟩ : Gh)) h318 h318 := .refl
    refine L_g 2 kr ?_
    refine L_nil ?_
    refine W_cond false kr (fun e => by cases e) (fun _ => ?_)
    refine W_skip ?_
    refine W_seq ?_
    refine W_region ?_
    refine L_g 3 kr ?_
    refine L_ln _ rfl rfl kr (len_by ((O.go ((X318).ow T318)).rb Hi)) ?_
    refine L_g 1 kr ?_
    refine L_c rfl rfl kr (received_send (p := 0) (no := 1) (s := ⟨1, 9, (L i).length, 0⟩) (R318.ow T318) (by rw [z16]; decide) z17 z18 z19 z20 z21 z22) ?_
    rintro v319 h319 ⟨e319, N319⟩
    dsimp only at e319 N319
    subst e319
    obtain ⟨S319, C319, ro319, R319, Y319⟩ := N319
    have X319 := ((X318).ow T318).trans Y319
    have m312_314_317_318_319 : ¬ (Gh.mut ⟨Gh.B (⟨Gh.B (⟨Gh.B (⟨Gh.B G, S314, C314, ro314⟩ : Gh), S317, C317, ro317⟩ : Gh), S318, C318, ro318⟩ : Gh), S319, C319, ro319⟩) (h311.next) ∧ ¬ (Gh.ro ⟨Gh.B (⟨Gh.B (⟨Gh.B (⟨Gh.B G, S314, C314, ro314⟩ : Gh), S317, C317, ro317⟩ : Gh), S318, C318, ro318⟩ : Gh), S319, C319, ro319⟩) (h311.next) := ⟨fun hm => (Y319.mu _ hm).elim m312_314_317_318.1 (fun e => by have := c312.lt; omega), fun hm => (Y319.ron _ hm).elim m312_314_317_318.2 (fun e => by have := c312.lt; omega)⟩
    replace c312 := c312.sm Y319.sm m312_314_317_318.1
    have T319 : Sm (Ow h (⟨Gh.B (⟨Gh.B (⟨Gh.B (⟨Gh.B G, S314, C314, ro314⟩ : Gh), S317, C317, ro317⟩ : Gh), S318, C318, ro318⟩ : Gh), S319, C319, ro319⟩ : Gh)) h319 h319 := .refl
    refine L_g 5 kr ?_
    refine L_want kr ?_
    refine L_ln _ rfl rfl kr (len_by ((O.go ((X319).ow T319)).rb Hi)) ?_
    refine L_g 2 kr ?_
    refine L_want kr ?_
    refine L_p (.string ⟨⟨L i⟩⟩) rfl (ev_conv (o := _) rfl kr (str_ok ((O.go ((X319).ow T319)).rb Hi))) ?_
    refine L_want kr ?_
    refine L_c rfl rfl kr (received_recv (p := 1) (no := 1) (s := ⟨0, 9, (L i).length, 0⟩) (d := L i) (R319.ow T319) (by rw [z24]; decide) z25 z26 z27 z28 z29 z30 z31 hb9) ?_
    rintro v320 h320 ⟨e320, N320⟩
    dsimp only at e320 N320
    subst e320
    obtain ⟨S320, C320, ro320, R320, Y320⟩ := N320
    have X320 := ((X319).ow T319).trans Y320
    have m312_314_317_318_319_320 : ¬ (Gh.mut ⟨Gh.B (⟨Gh.B (⟨Gh.B (⟨Gh.B (⟨Gh.B G, S314, C314, ro314⟩ : Gh), S317, C317, ro317⟩ : Gh), S318, C318, ro318⟩ : Gh), S319, C319, ro319⟩ : Gh), S320, C320, ro320⟩) (h311.next) ∧ ¬ (Gh.ro ⟨Gh.B (⟨Gh.B (⟨Gh.B (⟨Gh.B (⟨Gh.B G, S314, C314, ro314⟩ : Gh), S317, C317, ro317⟩ : Gh), S318, C318, ro318⟩ : Gh), S319, C319, ro319⟩ : Gh), S320, C320, ro320⟩) (h311.next) := ⟨fun hm => (Y320.mu _ hm).elim m312_314_317_318_319.1 (fun e => by have := c312.lt; omega), fun hm => (Y320.ron _ hm).elim m312_314_317_318_319.2 (fun e => by have := c312.lt; omega)⟩
    replace c312 := c312.sm Y320.sm m312_314_317_318_319.1
    have T320 : Sm (Ow h (⟨Gh.B (⟨Gh.B (⟨Gh.B (⟨Gh.B (⟨Gh.B G, S314, C314, ro314⟩ : Gh), S317, C317, ro317⟩ : Gh), S318, C318, ro318⟩ : Gh), S319, C319, ro319⟩ : Gh), S320, C320, ro320⟩ : Gh)) h320 h320 := .refl
    refine L_g 2 kr ?_
    refine L_nil ?_
    refine W_cond false kr (fun e => by cases e) (fun _ => ?_)
    refine W_skip ?_
    refine W_region ?_
    refine L_i ((i : Int)) (1) (nv ((i + 1 : Nat) : Int)) rfl rfl kr kr rfl (inc_ok (by omega)) ?_
    refine L_g 1 kr ?_
    refine L_nil ?_
    exact ⟨n - (i + 1), by omega, (i + 1), _, _, rfl, by omega, A9, (R320.ow T320), O.go ((X320).ow T320), kr, kr, kr, kr, kr, kr⟩
  ·
   have hge : i = n := by simp at hb; omega
   obtain ⟨Wa, hwa, fn, fm, fp, fa, fc, gn, gm⟩ := A.freed
   refine W_exit ?_
   repeat with_reducible refine then_exit ?_
   refine exit_here ?_
   refine W_seq ?_
   refine W_region ?_
   refine L_g 2 kr ?_
   refine L_c rfl rfl kr (free_ok (p := 0) (no := 1) (R.ext Ta) (by rw [an]; decide) (by rw [ar0]; exact List.mem_singleton.2 rfl) ap0 aa0 ac0) ?_
   rintro v321 h321 ⟨e321, N321⟩
   dsimp only at e321 N321
   rw [← hwa] at N321
   subst e321
   obtain ⟨S321, C321, ro321, R321, Y321⟩ := N321
   have X321 := ((Gx.refl).trans (Gx.of Ta)).trans Y321
   have T321 : Sm (Ow h (⟨Gh.B G, S321, C321, ro321⟩ : Gh)) h321 h321 := .refl
   refine L_g 4 kr ?_
   refine L_want kr ?_
   refine L_c rfl rfl kr (free_ok (p := 1) (no := 1) (R321.ow T321) (by rw [fn]; decide) fm fp fa fc) ?_
   rintro v322 h322 ⟨e322, N322⟩
   dsimp only at e322 N322
   subst e322
   obtain ⟨S322, C322, ro322, R322, Y322⟩ := N322
   have X322 := ((X321).ow T321).trans Y322
   have T322 : Sm (Ow h (⟨Gh.B (⟨Gh.B G, S321, C321, ro321⟩ : Gh), S322, C322, ro322⟩ : Gh)) h322 h322 := .refl
   refine L_g 5 kr ?_
   refine L_want kr ?_
   refine L_c rfl rfl kr (free_none (p := 0) (x := 1) (R322.ow T322) (by rw [gn]; decide) gm) ?_
   rintro v323 h323 ⟨e323, t323⟩
   try dsimp only at e323
   try dsimp only at t323
   subst e323
   have T323 : Sm (Ow h (⟨Gh.B (⟨Gh.B G, S321, C321, ro321⟩ : Gh), S322, C322, ro322⟩ : Gh)) h322 h323 := T322.ext t323
   have N323 := T323.nx
   have M323 := t323.nx
   refine L_g 3 kr ?_
   refine L_want kr ?_
   refine L_c rfl rfl kr (works_ok) ?_
   rintro vw hw ew
   cases ew
   refine L_g 2 kr ?_
   refine L_nil ?_
   refine W_ret ?_
   repeat first | with_reducible refine then_ret ?_ | with_reducible refine blk_ret ?_
   refine done_of (v := .bool true) (.inl rfl) kr ?_
   exact rfl
end
end Go.Proofs.Ytmehemeoaplepaa
