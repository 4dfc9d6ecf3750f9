/- Worlds of the program and walks of its functions. -/
import Derived.Test.YtmehemeoaplepaaZp
import Derived.Test.YtmehemeoaplepaaZj
import Derived.Test.YtmehemeoaplepaaRows
import Derived.Test.YtmehemeoaplepaaChecked
import Derived.WalkKit
import Derived.ProofKit
import Derived.OpenShut
import Derived.Deep.Slices
import Derived.Carry
import Derived.Test.YtmehemeoaplepaaZo
import Derived.Test.YtmehemeoaplepaaZm
import Derived.Test.YtmehemeoaplepaaZk
namespace Go.Proofs.Ytmehemeoaplepaa
noncomputable section
open Go Go.X Go.Arm Go.Mt
set_option maxHeartbeats 2000000 in
theorem settle_ok {W : Wd} {G : Gh} {h : AH} {k : Nat} {W' : Wd} (R : Rep W G h) (hbig : W.n < 1000) (hk : k < 2000) (hs : Wd.Settles k W W') :
  Arm.Calls Try.prog 14 [ptr (G.B .wd), nv (W.n : Int)] h (fun r => r.1 = .bool true ∧ Nxt W' G h r.2) := by
 have hbg : W.n < big := Nat.lt_trans hbig (by decide)
 refine Calls_W 56 Try.f14 ?_
 have T0 : Sm Nix h h := .refl
 refine W_sg 1 kr (L_nil (W_seq (W_sg 1 kr (L_nil (W_block ?_)))))
 refine W_loop (fun mm fr hh => ∃ (k : Nat) (i : Nat) (Wa : Wd) (Sa : Ro → Value) (Ca : Ro → Th) (ra : Nat → Prop), mm = k ∧ (i + k < 2000) ∧ (Wd.Settles k Wa W') ∧ Wa.n = W.n ∧ Rep Wa (⟨G.B, Sa, Ca, ra⟩ : Gh) hh ∧ Gx G h (⟨G.B, Sa, Ca, ra⟩ : Gh) hh ∧ fr 0 = ptr (G.B .wd) ∧ fr 1 = nv (W.n : Int) ∧ fr 12 = nv (i : Int)) (k) ?_ ?_
 ·
  have T0x := T0
  exact ⟨k, 0, W, _, _, _, rfl, by omega, hs, rfl, (R.ext T0), ((Gx.refl).trans (Gx.of T0)), kr, kr, kr⟩
 rintro mm fr hha ⟨k, i, Wa, Sa, Ca, ra, hma, ha1, ha2, hna, Ra, Xa, y0, y1, y12⟩
 refine W_set (k := 0) y0 (W_set (k := 1) y1 (W_set (k := 12) y12 ?_))
 have Ta : Sm Nix hha hha := .refl
 obtain ⟨W1, hr1, hq1⟩ := ha2.step
 obtain ⟨Wy, hal, hcl⟩ := Option.bind_eq_some_iff.1 hr1
 rw [hna] at hal hcl
 refine W_seq (W_region (L_i ((i : Int)) (2000) (.bool true) rfl rfl kr kr rfl (by first | (simp; done) | (simp; omega)) (L_nil (W_seq ?_))))
 refine W_cond true kr (fun _ => ?_) (fun e => by cases e)
 refine W_skip (W_seq (W_block (W_seq (W_sg 2 kr (L_nil (W_block ?_))))))
 refine W_loop (fun mm fr hh => ∃ (p : Nat) (Wb : Wd) (Sb : Ro → Value) (Cb : Ro → Th) (rb : Nat → Prop), mm = W.n - p ∧ (p ≤ W.n) ∧ (Wd.allD W.n p (W.n - p) Wb = some Wy) ∧ Wb.n = W.n ∧ Rep Wb (⟨G.B, Sb, Cb, rb⟩ : Gh) hh ∧ Gx G h (⟨G.B, Sb, Cb, rb⟩ : Gh) hh ∧ fr 0 = ptr (G.B .wd) ∧ fr 1 = nv (W.n : Int) ∧ fr 12 = nv (i : Int) ∧ fr 14 = nv (W.n : Int) ∧ fr 15 = nv (p : Int)) (W.n) ?_ ?_
 ·
  exact ⟨0, Wa, _, _, _, rfl, Nat.zero_le _, hal, hna, (Ra.ext Ta), ((Xa).trans (Gx.of Ta)), kr, kr, kr, kr, kr⟩
 rintro mm fr hhb ⟨p, Wb, Sb, Cb, rb, hmb, hb1, hb2, hnb, Rb, Xb, y0, y1, y12, y14, y15⟩
 refine W_set (k := 0) y0 (W_set (k := 1) y1 (W_set (k := 12) y12 (W_set (k := 14) y14 (W_set (k := 15) y15 ?_))))
 have Tb : Sm Nix hhb hhb := .refl
 refine W_seq (W_region (L_i ((p : Int)) ((W.n : Int)) (.bool (decide ((p : Int) < (W.n : Int)))) rfl rfl kr kr rfl (rfl) (L_nil (W_seq ?_))))
 refine W_cond (decide ((p : Int) < (W.n : Int))) kr (fun hb => ?_) (fun hb => ?_)
 ·
  have hpl : p < W.n := by simp at hb; omega
  rw [show W.n - p = (W.n - (p + 1)) + 1 by omega] at hb2
  obtain ⟨Wx, hx1, hb3⟩ := Option.bind_eq_some_iff.1 hb2
  have hnx : Wx.n = W.n := (Wd.rowD_n hx1).trans hnb
  refine W_skip (W_seq (W_block (W_sg 2 kr (L_nil (W_sg 2 kr (L_nil (W_block ?_)))))))
  refine W_loop (fun mm fr hh => ∃ (q : Nat) (Wc : Wd) (Sc : Ro → Value) (Cc : Ro → Th) (rc : Nat → Prop), mm = W.n - q ∧ (q ≤ W.n) ∧ (Wd.rowD p q (W.n - q) Wc = some Wx) ∧ Wc.n = W.n ∧ Rep Wc (⟨G.B, Sc, Cc, rc⟩ : Gh) hh ∧ Gx G h (⟨G.B, Sc, Cc, rc⟩ : Gh) hh ∧ fr 0 = ptr (G.B .wd) ∧ fr 1 = nv (W.n : Int) ∧ fr 12 = nv (i : Int) ∧ fr 14 = nv (W.n : Int) ∧ fr 15 = nv (p : Int) ∧ fr 5 = nv (p : Int) ∧ fr 18 = nv (W.n : Int) ∧ fr 19 = nv (q : Int)) (W.n) ?_ ?_
  ·
   exact ⟨0, Wb, _, _, _, rfl, Nat.zero_le _, hx1, hnb, (Rb.ext Tb), ((Xb).trans (Gx.of Tb)), kr, kr, kr, kr, kr, kr, kr, kr⟩
  rintro mm fr hhc ⟨q, Wc, Sc, Cc, rc, hmc, hc1, hc2, hnc, Rc, Xc, y0, y1, y12, y14, y15, y5, y18, y19⟩
  refine W_set (k := 0) y0 (W_set (k := 1) y1 (W_set (k := 12) y12 (W_set (k := 14) y14 (W_set (k := 15) y15 (W_set (k := 5) y5 (W_set (k := 18) y18 (W_set (k := 19) y19 ?_)))))))
  have Tc : Sm Nix hhc hhc := .refl
  refine W_seq (W_region (L_i ((q : Int)) ((W.n : Int)) (.bool (decide ((q : Int) < (W.n : Int)))) rfl rfl kr kr rfl (rfl) (L_nil (W_seq ?_))))
  refine W_cond (decide ((q : Int) < (W.n : Int))) kr (fun hb => ?_) (fun hb => ?_)
  ·
   have hql : q < W.n := by simp at hb; omega
   rw [show W.n - q = (W.n - (q + 1)) + 1 by omega] at hc2
   obtain ⟨Wu, hu1, hc3⟩ := Option.bind_eq_some_iff.1 hc2
   have hnu : Wu.n = W.n := (Wd.delAll_n hu1).trans hnc
   unfold Wd.delAll at hu1
   split at hu1
   rotate_right
   · cases hu1
   rename_i hlen
   obtain rfl := Option.some.inj hu1
   refine W_skip (W_seq (W_block (W_sg 2 kr (L_nil (W_sg 1 kr (L_nil (W_block ?_)))))))
   refine W_loop (fun mm fr hh => ∃ (j : Nat) (Wd9 : Wd) (Sd : Ro → Value) (Cd : Ro → Th) (rd : Nat → Prop), mm = (Wc.way p q).length - j ∧ (j ≤ (Wc.way p q).length) ∧ (Wd9 = Wc.mv p q j) ∧ Wd9.n = W.n ∧ Rep Wd9 (⟨G.B, Sd, Cd, rd⟩ : Gh) hh ∧ Gx G h (⟨G.B, Sd, Cd, rd⟩ : Gh) hh ∧ fr 0 = ptr (G.B .wd) ∧ fr 1 = nv (W.n : Int) ∧ fr 12 = nv (i : Int) ∧ fr 14 = nv (W.n : Int) ∧ fr 15 = nv (p : Int) ∧ fr 5 = nv (p : Int) ∧ fr 18 = nv (W.n : Int) ∧ fr 19 = nv (q : Int) ∧ fr 6 = nv (q : Int) ∧ fr 22 = nv (j : Int)) ((Wc.way p q).length) ?_ ?_
   ·
     exact ⟨0, Wc, _, _, _, rfl, Nat.zero_le _, (Wd.mv_0 Wc p q).symm, hnc, (Rc.ext Tc), ((Xc).trans (Gx.of Tc)), kr, kr, kr, kr, kr, kr, kr, kr, kr, kr⟩
   rintro mm fr hhd ⟨j, Wd9, Sd, Cd, rd, hmd, hd1, hd2, hnd, Rd, Xd, y0, y1, y12, y14, y15, y5, y18, y19, y6, y22⟩
   refine W_set (k := 0) y0 (W_set (k := 1) y1 (W_set (k := 12) y12 (W_set (k := 14) y14 (W_set (k := 15) y15 (W_set (k := 5) y5 (W_set (k := 18) y18 (W_set (k := 19) y19 (W_set (k := 6) y6 (W_set (k := 22) y22 ?_)))))))))
   have Td : Sm Nix hhd hhd := .refl
   refine W_seq (W_region (L_i ((j : Int)) (200) (.bool true) rfl rfl kr kr rfl (by first | (simp; done) | (simp; omega)) (L_nil (W_seq ?_))))
   refine W_cond true kr (fun _ => ?_) (fun e => by cases e)
   refine W_skip (W_seq (W_block (W_seq ?_)))
   subst hd2
   have hp9 : p < (Wc.mv p q j).n := by show p < Wc.n; rw [hnc]; exact hpl
   have hq9 : q < (Wc.mv p q j).n := by show q < Wc.n; rw [hnc]; exact hql
   by_cases hj : j = (Wc.way p q).length
   ·
     have hem : (Wc.mv p q j).way p q = [] := by rw [Wd.mv_way, hj, List.drop_length]
     subst hj
     refine W_rg 3 kr (L_c rfl rfl kr (deliver_no (a := p) (b := q) (Rd.ext Td) hp9 hq9 hem) ?_)
     rintro v274 h274 ⟨e274, t274⟩
     try dsimp only at e274
     try dsimp only at t274
     subst e274
     have T274 := Td.ext t274
     have N274 := T274.nx
     have M274 := t274.nx
     refine L_g 5 kr (L_nil (W_sg 6 kr (L_nil ?_)))
     refine W_cond true kr (fun _ => ?_) (fun e => by cases e)
     refine W_exit ?_
     repeat with_reducible refine then_exit ?_
     refine exit_out rfl ?_
     repeat with_reducible refine then_exit ?_
     refine exit_here (W_region (L_i ((q : Int)) (1) (nv ((q + 1 : Nat) : Int)) rfl rfl kr kr rfl (inc_ok (by omega)) (L_g 1 kr (L_nil ?_))))
     exact ⟨W.n - (q + 1), by omega, (q + 1), _, _, _, _, rfl, by omega, hc3, hnu, (Rd.ext T274), ((Xd).trans (Gx.of T274)), kr, kr, kr, kr, kr, kr, kr, kr⟩
   ·
     obtain ⟨x, hx⟩ : ∃ x, (Wc.way p q)[j]? = some x := ⟨_, List.getElem?_eq_getElem (by omega)⟩
     have hdr := drop_cons hx
     have hwy : (Wc.mv p q j).way p q = x :: (Wc.way p q).drop (j + 1) := by rw [Wd.mv_way, hdr]
     have hbg : ((Wc.mv p q j).pr q).inb.length < big := by rw [Wd.mv_inb, List.length_append, List.length_map, List.length_take]; have := hlen.1; have := hlen.2; omega
     refine W_rg 3 kr (L_c rfl rfl kr (deliver_ok (a := p) (b := q) (Rd.ext Td) hp9 hq9 hwy hbg) ?_)
     rintro v275 h275 ⟨e275, N275⟩
     dsimp only at e275 N275
     subst e275
     obtain ⟨S275, C275, ro275, R275, Y275⟩ := N275
     have X275 := ((Xd).trans (Gx.of Td)).trans Y275
     have T275 : Sm (Ow h (⟨Gh.B (⟨G.B, Sd, Cd, rd⟩ : Gh), S275, C275, ro275⟩ : Gh)) h275 h275 := .refl
     refine L_g 5 kr (L_nil (W_sg 6 kr (L_nil ?_)))
     refine W_cond false kr (fun e => by cases e) (fun _ => ?_)
     refine W_skip (W_region (L_i ((j : Int)) (1) (nv ((j + 1 : Nat) : Int)) rfl rfl kr kr rfl (inc_ok (by have := hlen.1; omega)) (L_g 1 kr (L_nil ?_))))
     exact ⟨(Wc.way p q).length - (j + 1), by omega, (j + 1), _, _, _, _, rfl, by omega, Wd.mv_s Wc p q j hdr, hnu, (R275.ow T275), ((X275).ow T275), kr, kr, kr, kr, kr, kr, kr, kr, kr, kr⟩
  ·
   have hge : q = W.n := by simp at hb; omega
   rw [hge, Nat.sub_self] at hc2
   obtain rfl := Option.some.inj hc2
   refine W_exit ?_
   repeat with_reducible refine then_exit ?_
   refine exit_here (W_region (L_i ((p : Int)) (1) (nv ((p + 1 : Nat) : Int)) rfl rfl kr kr rfl (inc_ok (by omega)) (L_g 1 kr (L_nil ?_))))
   exact ⟨W.n - (p + 1), by omega, (p + 1), _, _, _, _, rfl, by omega, hb3, hnx, (Rc.ext Tc), ((Xc).trans (Gx.of Tc)), kr, kr, kr, kr, kr⟩
 ·
  have hge : p = W.n := by simp at hb; omega
  rw [hge, Nat.sub_self] at hb2
  obtain rfl := Option.some.inj hb2
  refine W_exit ?_
  repeat with_reducible refine then_exit ?_
  refine exit_here (W_seq (W_sg 2 kr (L_nil (W_block ?_))))
  refine W_loop (fun mm fr hh => ∃ (p : Nat) (We : Wd) (Se : Ro → Value) (Ce : Ro → Th) (re : Nat → Prop), mm = W.n - p ∧ (p ≤ W.n) ∧ (Wd.callsD p (W.n - p) We = some W1) ∧ We.n = W.n ∧ Rep We (⟨G.B, Se, Ce, re⟩ : Gh) hh ∧ Gx G h (⟨G.B, Se, Ce, re⟩ : Gh) hh ∧ fr 0 = ptr (G.B .wd) ∧ fr 1 = nv (W.n : Int) ∧ fr 12 = nv (i : Int) ∧ fr 40 = nv (W.n : Int) ∧ fr 41 = nv (p : Int)) (W.n) ?_ ?_
  ·
   exact ⟨0, _, _, _, _, rfl, Nat.zero_le _, hcl, hnb, (Rb.ext Tb), ((Xb).trans (Gx.of Tb)), kr, kr, kr, kr, kr⟩
  rintro mm fr hhe ⟨p, We, Se, Ce, re, hme, he1, he2, hne, Re, Xe, y0, y1, y12, y40, y41⟩
  refine W_set (k := 0) y0 (W_set (k := 1) y1 (W_set (k := 12) y12 (W_set (k := 40) y40 (W_set (k := 41) y41 ?_))))
  have Te : Sm Nix hhe hhe := .refl
  refine W_seq (W_region (L_i ((p : Int)) ((W.n : Int)) (.bool (decide ((p : Int) < (W.n : Int)))) rfl rfl kr kr rfl (rfl) (L_nil (W_seq ?_))))
  refine W_cond (decide ((p : Int) < (W.n : Int))) kr (fun hb => ?_) (fun hb => ?_)
  ·
   have hpl : p < W.n := by simp at hb; omega
   rw [show W.n - p = (W.n - (p + 1)) + 1 by omega] at he2
   obtain ⟨Wv, hv1, he3⟩ := Option.bind_eq_some_iff.1 he2
   have hnv : Wv.n = W.n := (Wd.call_n hv1).trans hne
   have hp9 : p < We.n := by rw [hne]; exact hpl
   refine W_skip (W_seq (W_block (W_sg 2 kr (L_nil (W_sg 2 kr (L_c rfl rfl kr (prog_ok (Re.ext Te) hp9 hv1) ?_))))))
   rintro v276 h276 ⟨e276, N276⟩
   dsimp only at e276 N276
   subst e276
   obtain ⟨S276, C276, ro276, R276, Y276⟩ := N276
   have X276 := ((Xe).trans (Gx.of Te)).trans Y276
   have T276 : Sm (Ow h (⟨Gh.B (⟨G.B, Se, Ce, re⟩ : Gh), S276, C276, ro276⟩ : Gh)) h276 h276 := .refl
   refine L_g 5 kr (L_nil (W_sg 2 kr (L_nil ?_)))
   refine W_cond false kr (fun e => by cases e) (fun _ => ?_)
   refine W_skip (W_region (L_i ((p : Int)) (1) (nv ((p + 1 : Nat) : Int)) rfl rfl kr kr rfl (inc_ok (by omega)) (L_g 1 kr (L_nil ?_))))
   exact ⟨W.n - (p + 1), by omega, (p + 1), _, _, _, _, rfl, by omega, he3, hnv, (R276.ow T276), ((X276).ow T276), kr, kr, kr, kr, kr⟩
  ·
   have hge : p = W.n := by simp at hb; omega
   rw [hge, Nat.sub_self] at he2
   obtain rfl := Option.some.inj he2
   refine W_exit ?_
   repeat with_reducible refine then_exit ?_
   refine exit_here (W_seq ?_)
   rcases hq1 with ⟨hqt, hw9⟩ | ⟨hqf, k', hk', hst⟩
   ·
     subst hw9
     refine W_rg 1 kr (L_c rfl rfl kr (quiet_ok (Re.ext Te) (by rw [hne]; exact hbg)) ?_)
     rintro v277 h277 ⟨b277, e277, q277, t277⟩
     try dsimp only at t277
     dsimp only at e277 t277
     obtain rfl : b277 = true := q277.2 hqt
     subst e277
     have T277 := Te.ext t277
     have N277 := T277.nx
     have M277 := t277.nx
     refine L_nil ?_
     refine W_cond true kr (fun _ => ?_) (fun e => by cases e)
     refine W_sg 1 kr (L_nil (W_ret ?_))
     repeat first | with_reducible refine then_ret ?_ | with_reducible refine blk_ret ?_
     refine done_of (v := .bool true) (.inl rfl) kr ?_
     exact ⟨rfl, _, _, _, (Re.ext T277), ((Xe).trans (Gx.of T277))⟩
   ·
     refine W_rg 1 kr (L_c rfl rfl kr (quiet_ok (Re.ext Te) (by rw [hne]; exact hbg)) ?_)
     rintro v278 h278 ⟨b278, e278, q278, t278⟩
     try dsimp only at t278
     dsimp only at e278 t278
     obtain rfl : b278 = false := by
      cases b278 with
      | false => rfl
      | true => exact (hqf (q278.1 rfl)).elim
     subst e278
     have T278 := Te.ext t278
     have N278 := T278.nx
     have M278 := t278.nx
     refine L_nil ?_
     refine W_cond false kr (fun e => by cases e) (fun _ => ?_)
     refine W_skip (W_region (L_i ((i : Int)) (1) (nv ((i + 1 : Nat) : Int)) rfl rfl kr kr rfl (inc_ok (by omega)) (L_g 1 kr (L_nil ?_))))
     exact ⟨k', by omega, k', (i + 1), _, _, _, _, rfl, by omega, hst, (Wd.rnd_n hr1).trans hna, (Re.ext T278), ((Xe).trans (Gx.of T278)), kr, kr, kr⟩
end
end Go.Proofs.Ytmehemeoaplepaa
namespace Go.Mt
open Go.Arm
def T2 (K : Wd) (a b : Pr) (f g : Nat → Rq) (u v : List Pk) : Wd := ⟨K.lim, 2, fun p => if p = 0 then a else if p = 1 then b else K.pr p, fun p => if p = 0 then f else if p = 1 then g else K.rq p,
 fun i j => if i = 0 ∧ j = 1 then u else if i = 1 ∧ j = 0 then v else []⟩
theorem ups_ups {α : Type} (f : Nat → α) (k : Nat) (x y : α) : ups (ups f k x) k y = ups f k y := by
 funext j; simp only [ups]; split <;> rfl
namespace T2
variable {K : Wd} {a b : Pr} {f g : Nat → Rq} {u v : List Pk}
theorem pr0_ : (T2 K a b f g u v).pr 0 = a := rfl
theorem pr1_ : (T2 K a b f g u v).pr 1 = b := rfl
theorem rq0_ : (T2 K a b f g u v).rq 0 = f := rfl
theorem rq1_ : (T2 K a b f g u v).rq 1 = g := rfl
theorem way01 : (T2 K a b f g u v).way 0 1 = u := rfl
theorem way10 : (T2 K a b f g u v).way 1 0 = v := rfl
theorem setPr0 (x : Pr) : (T2 K a b f g u v).setPr 0 x = T2 K x b f g u v := by
 unfold Wd.setPr T2; congr 1; funext p; simp only [ups]; split <;> simp_all
theorem setPr1 (x : Pr) : (T2 K a b f g u v).setPr 1 x = T2 K a x f g u v := by
 unfold Wd.setPr T2; congr 1; funext p; simp only [ups]; split <;> simp_all
theorem setRq0 (no : Nat) (x : Rq) : (T2 K a b f g u v).setRq 0 no x = T2 K a b (ups f no x) g u v := by
 unfold Wd.setRq T2; congr 1; funext p; simp only [ups]; split <;> simp_all
theorem setRq1 (no : Nat) (x : Rq) : (T2 K a b f g u v).setRq 1 no x = T2 K a b f (ups g no x) u v := by
 unfold Wd.setRq T2; congr 1; funext p; simp only [ups]; split <;> simp_all
theorem setWay00 : (T2 K a b f g u v).setWay 0 0 [] = T2 K a b f g u v := Wd.setWay_same _ 0 0
theorem setWay11 : (T2 K a b f g u v).setWay 1 1 [] = T2 K a b f g u v := Wd.setWay_same _ 1 1
theorem setWay01 (x : List Pk) : (T2 K a b f g u v).setWay 0 1 x = T2 K a b f g x v := by
 unfold Wd.setWay T2; congr 1; funext p q; simp only [ups]
 by_cases e : p = 0
 · subst e; by_cases e2 : q = 1
   · subst e2; simp [ups]
   · simp [ups, e2]
 · simp [e]
theorem setWay10 (x : List Pk) : (T2 K a b f g u v).setWay 1 0 x = T2 K a b f g u x := by
 unfold Wd.setWay T2; congr 1; funext p q; simp only [ups]
 by_cases e : p = 1
 · subst e; by_cases e2 : q = 0
   · subst e2; simp [ups]
   · simp [ups, e2]
 · simp [e]
theorem put01 {x : Pk} (h : u.length < big) : (T2 K a b f g u v).put 0 1 x = some (T2 K a b f g (u ++ [x]) v) := by
 unfold Wd.put; rw [way01, if_pos h, setWay01]
theorem put10 {x : Pk} (h : v.length < big) : (T2 K a b f g u v).put 1 0 x = some (T2 K a b f g u (v ++ [x])) := by
 unfold Wd.put; rw [way10, if_pos h, setWay10]
theorem del00 (h : a.inb.length + 200 < big) : (T2 K a b f g u v).delAll 0 0 = some (T2 K a b f g u v) := by
 unfold Wd.delAll
 rw [if_pos]
 · show some (((T2 K a b f g u v).setWay 0 0 []).setPr 0 { a with inb := a.inb ++ [] }) = _
   rw [setWay00, setPr0, List.append_nil]
 · exact ⟨by show [].length < 200; decide, h⟩
theorem del11 (h : b.inb.length + 200 < big) : (T2 K a b f g u v).delAll 1 1 = some (T2 K a b f g u v) := by
 unfold Wd.delAll
 rw [if_pos]
 · show some (((T2 K a b f g u v).setWay 1 1 []).setPr 1 { b with inb := b.inb ++ [] }) = _
   rw [setWay11, setPr1, List.append_nil]
 · exact ⟨by show [].length < 200; decide, h⟩
theorem del01 (hu : u.length < 200) (h : b.inb.length + 200 < big) : (T2 K a b f g u v).delAll 0 1 = some (T2 K a { b with inb := b.inb ++ u.map fun x => ((0 : Int), x) } f g [] v) := by
 unfold Wd.delAll
 rw [if_pos]
 · show some (((T2 K a b f g u v).setWay 0 1 (u.drop u.length)).setPr 1 { b with inb := b.inb ++ (u.take u.length).map fun x => ((0 : Int), x) }) = _
   rw [setWay01, setPr1, List.drop_length, List.take_length]
 · exact ⟨hu, h⟩
theorem del10 (hv : v.length < 200) (h : a.inb.length + 200 < big) : (T2 K a b f g u v).delAll 1 0 = some (T2 K { a with inb := a.inb ++ v.map fun x => ((1 : Int), x) } b f g u []) := by
 unfold Wd.delAll
 rw [if_pos]
 · show some (((T2 K a b f g u v).setWay 1 0 (v.drop v.length)).setPr 0 { a with inb := a.inb ++ (v.take v.length).map fun x => ((1 : Int), x) }) = _
   rw [setWay10, setPr0, List.drop_length, List.take_length]
 · exact ⟨hv, h⟩
theorem call0 {l : List (Int × Pk)} (ha : a.inb = l) (h : l.length < big) : (T2 K a b f g u v).call 0 = Wd.handles 0 (T2 K { a with inb := [] } b f g u v) l := by
 unfold Wd.call; rw [pr0_, ha, if_pos h, setPr0]
theorem call1 {l : List (Int × Pk)} (hb : b.inb = l) (h : l.length < big) : (T2 K a b f g u v).call 1 = Wd.handles 1 (T2 K a { b with inb := [] } f g u v) l := by
 unfold Wd.call; rw [pr1_, hb, if_pos h, setPr1]
theorem rest0 (ha : a.inb = []) : (T2 K a b f g u v).call 0 = some (T2 K a b f g u v) := by
 rw [call0 ha (by decide)]; show some (T2 K { a with inb := [] } b f g u v) = _; rw [← ha]
theorem rest1 (hb : b.inb = []) : (T2 K a b f g u v).call 1 = some (T2 K a b f g u v) := by
 rw [call1 hb (by decide)]; show some (T2 K a { b with inb := [] } f g u v) = _; rw [← hb]
theorem quiet (ha : a.inb = []) (hb : b.inb = []) : (T2 K a b f g [] []).quiet := by
 refine ⟨fun i j => ?_, fun p hp => ?_⟩
 · show (if i = 0 ∧ j = 1 then [] else if i = 1 ∧ j = 0 then [] else []) = ([] : List Pk)
   split
   · rfl
   · split <;> rfl
 · rcases p with _ | _ | p
   · exact ha
   · exact hb
   · have : (p + 1 + 1) < 2 := hp; omega
theorem loud0 {x : Pk} : ¬ (T2 K a b f g (x :: u) v).quiet := fun h => by have := h.1 0 1; rw [way01] at this; cases this
theorem loud1 {x : Pk} : ¬ (T2 K a b f g u (x :: v)).quiet := fun h => by have := h.1 1 0; rw [way10] at this; cases this
end T2
end Go.Mt

namespace Go.Proofs.Ytmehemeoaplepaa
noncomputable section
open Go Go.X Go.Arm Go.Mt
theorem works_ok {h : AH} : Arm.Calls Try.prog 8 [] h (fun r => r = (.bool true, h)) := ⟨_, eRun_known (P := Try.prog) rfl h rfl, fun a ha => by cases List.mem_singleton.1 ha; rfl⟩
theorem ints_bv (d : By) : X.intsOf (d.map bv) = some (d.map fun x => (x.toNat : Int)) := by
 induction d with
 | nil => rfl
 | cons x l ih => simp only [List.map_cons]; unfold bv X.intsOf; unfold bv at ih; rw [ih]
theorem ofNat_bv (d : By) : (d.map fun x => (x.toNat : Int)).map (fun n => UInt8.ofNat n.toNat) = d := by
 rw [List.map_map]
 refine (List.map_congr_left fun x _ => ?_).trans (List.map_id d)
 show UInt8.ofNat (((x.toNat : Nat) : Int).toNat) = x
 rw [Int.toNat_natCast]; exact UInt8.ofNat_toNat
theorem str_ok {h : AH} {v : Value} {d : By} (H : Rb h v (d.map bv)) : aConv Try.prog 23 9 v h = some (.string ⟨⟨d⟩⟩) := by
 have hS : Try.prog.underlying 23 = some (.slice 5) := by kernel_rfl
 have hD : Try.prog.underlying 9 = some .string := by kernel_rfl
 have hB : Try.prog.underlying 5 = some (.int .u8) := by kernel_rfl
 rcases H with ⟨h0, a, c, rfl, h1, h2⟩ | ⟨b, o, c, h0, h1, rfl, h2, h3⟩
 · have hd : d = [] := List.map_eq_nil_iff.1 h0
   subst hd
   cases a with
   | none =>
    obtain rfl := h1 rfl
    have : aConv Try.prog 23 9 (.slice none 0 0) h = some (.string ⟨⟨[]⟩⟩) := by kernel_rfl
    exact this
   | some q =>
    unfold aConv aB2S
    simp only [hS, hD, hB, if_true, X.intsOf]
    rfl
 · unfold aConv aB2S
   simp only [hS, hD, hB]
   have e0 : (d.map bv).length ≠ 0 := fun e => h0 (List.length_eq_zero_iff.1 e)
   rw [if_neg e0, if_neg h1, cells_r (d.map bv) 0 (fun j hj => by rw [Nat.zero_add]; exact h3 j hj)]
   simp only [ints_bv, ofNat_bv]
theorem eq_str {h : AH} {xo yo : Operand} (d : By) : aBin Try.prog .eql 9 xo yo (.string ⟨⟨d⟩⟩) (.string ⟨⟨d⟩⟩) h = some (.bool true) := by
 unfold aBin aStr
 simp
theorem eq_st (s : St) : pureRun Try.prog (Op.equal 43 (.agg ⟨[nv s.src, nv s.tag, nv s.size, nv s.err]⟩) (.agg ⟨[nv s.src, nv s.tag, nv s.size, nv s.err]⟩)) = some true := by
 have hu : ∃ f1 f2 f3 f4 : Field, Try.prog.underlying 43 = some (.struct ⟨[f1, f2, f3, f4]⟩) ∧ (f1.name ≠ "_" ∧ f2.name ≠ "_" ∧ f3.name ≠ "_" ∧ f4.name ≠ "_") ∧ (f1.type = 3 ∧ f2.type = 3 ∧ f3.type = 3 ∧ f4.type = 26) ∧ f1.offset = 0 ∧ f2.offset = 1 ∧ f3.offset = 2 ∧ f4.offset = 3 :=
  ⟨fld 43 0, fld 43 1, fld 43 2, fld 43 3, kr, ⟨by decide +kernel, by decide +kernel, by decide +kernel, by decide +kernel⟩, ⟨by kernel_rfl, kr, kr, kr⟩, kr, kr, kr, kr⟩
 obtain ⟨f1, f2, f3, f4, hu, ⟨n1, n2, n3, n4⟩, ⟨t1, t2, t3, t4⟩, o1, o2, o3, o4⟩ := hu
 have hi : Try.prog.underlying 3 = some (.int .i64) := by kernel_rfl
 have hj : Try.prog.underlying 26 = some (.int .i64) := by kernel_rfl
 have q1 : ∀ x : Int, pureRun Try.prog (Go.Op.equalIn 9999 3 (nv x) (nv x)) = some true := fun x => by
  have := eqIn_int (P := Try.prog) 9998 3 .i64 .i64 x x hi
  rw [show (x == x) = true by simp] at this
  exact this
 have q2 : ∀ x : Int, pureRun Try.prog (Go.Op.equalIn 9999 26 (nv x) (nv x)) = some true := fun x => by
  have := eqIn_int (P := Try.prog) 9998 26 .i64 .i64 x x hj
  rw [show (x == x) = true by simp] at this
  exact this
 unfold Go.Op.equal
 show pureRun _ (Go.Op.equalIn (9999 + 1) _ _ _) = _
 rw [Go.Op.equalIn]
 refine pureRun_and (pr_un hu) ?_
 dsimp only
 refine pureRun_and (e := program) (a := Try.prog) rfl ?_
 rw [if_neg (by decide +kernel)]
 rw [← Array.forIn_toList]
 simp only [List.forIn_cons, List.forIn_nil, n1, n2, n3, n4, t1, t2, t3, t4, o1, o2, o3, o4, if_true, ne_eq, not_false_eq_true]
 have p0 : ∀ a b c d : Value, pureRun Try.prog (part 3 ⟨[a, b, c, d]⟩ 0) = some a := fun a b c d => by kernel_rfl
 have p1 : ∀ a b c d : Value, pureRun Try.prog (part 3 ⟨[a, b, c, d]⟩ 1) = some b := fun a b c d => by kernel_rfl
 have p2 : ∀ a b c d : Value, pureRun Try.prog (part 3 ⟨[a, b, c, d]⟩ 2) = some c := fun a b c d => by kernel_rfl
 have p3 : ∀ a b c d : Value, pureRun Try.prog (part 26 ⟨[a, b, c, d]⟩ 3) = some d := fun a b c d => by kernel_rfl
 exact pureRun_and (a := (none, ())) (pureRun_and (a := ForInStep.yield (none, ())) (pureRun_and (p0 _ _ _ _) (pureRun_and (p0 _ _ _ _) (pureRun_and (q1 _) rfl))) (pureRun_and (a := ForInStep.yield (none, ())) (pureRun_and (p1 _ _ _ _) (pureRun_and (p1 _ _ _ _) (pureRun_and (q1 _) rfl)))
  (pureRun_and (a := ForInStep.yield (none, ())) (pureRun_and (p2 _ _ _ _) (pureRun_and (p2 _ _ _ _) (pureRun_and (q1 _) rfl))) (pureRun_and (a := ForInStep.yield (none, ())) (pureRun_and (p3 _ _ _ _) (pureRun_and (p3 _ _ _ _) (pureRun_and (q2 _) rfl))) rfl)))) rfl
theorem agg_eql (T : TypeId) (x y : Array Value) : binOp .eql T (.agg x) (.agg y) = (Go.Op.equal T (.agg x) (.agg y) >>= fun b => pure (.bool b)) := rfl
theorem eql_st (s : St) (h : AH) (xo yo : Operand) : aBin Try.prog .eql 43 xo yo (.agg ⟨[nv s.src, nv s.tag, nv s.size, nv s.err]⟩) (.agg ⟨[nv s.src, nv s.tag, nv s.size, nv s.err]⟩) h = some (.bool true) := by
 have hu : ∃ f : Array Field, Try.prog.underlying 43 = some (.struct f) := ⟨⟨[fld 43 0, fld 43 1, fld 43 2, fld 43 3]⟩, kr⟩
 obtain ⟨fsd, hu⟩ := hu
 have e1 : aBinV Try.prog .eql 43 (.agg ⟨[nv s.src, nv s.tag, nv s.size, nv s.err]⟩) (.agg ⟨[nv s.src, nv s.tag, nv s.size, nv s.err]⟩) h = none := by
  unfold aBinV aEqV
  simp only [hu]
 unfold aBin
 simp only [e1]
 have e2 : pureRun Try.prog (eqGuard .eql 43 xo yo (.agg ⟨[nv s.src, nv s.tag, nv s.size, nv s.err]⟩) (.agg ⟨[nv s.src, nv s.tag, nv s.size, nv s.err]⟩)) = some () := by kernel_rfl
 have e3 : pureRun Try.prog (binOp .eql 43 (.agg ⟨[nv s.src, nv s.tag, nv s.size, nv s.err]⟩) (.agg ⟨[nv s.src, nv s.tag, nv s.size, nv s.err]⟩)) = some (.bool true) := by
  rw [agg_eql]
  exact pureRun_and (a := true) (eq_st s) rfl
 have e4 : pureRun Try.prog (eqGuard .eql 43 xo yo (.agg ⟨[nv s.src, nv s.tag, nv s.size, nv s.err]⟩) (.agg ⟨[nv s.src, nv s.tag, nv s.size, nv s.err]⟩) >>= fun _ => binOp .eql 43 (.agg ⟨[nv s.src, nv s.tag, nv s.size, nv s.err]⟩) (.agg ⟨[nv s.src, nv s.tag, nv s.size, nv s.err]⟩)) = some (.bool true) := pureRun_and (a := ()) e2 e3
 have e5 : pfv (.agg ⟨[nv s.src, nv s.tag, nv s.size, nv s.err]⟩) = true := by kernel_rfl
 rw [e5]
 unfold aPure
 rw [if_pos (by rfl)]
 generalize hq : pureRun Try.prog _ = q
 have : q = some (.bool true) := by rw [← hq]; exact e4
 rw [this]
 rfl
theorem received_recv {W : Wd} {G : Gh} {h : AH} {p no : Nat} {s : St} {d : By} {W1 : Wd} (R : Rep W G h) (hp : p < W.n) (hm : no ∈ (W.pr p).reqs) (hact : (W.rq p no).act = true) (he1 : W.call p = some W1) (hdone : (W1.rq p no).done = true) (hsd : (W1.rq p no).send = false) (hst : (W1.rq p no).st = s) (hda : (W1.rq p no).data = d) (hdl : d.length < big) :
  Arm.Calls Try.prog 22 [ptr (G.B .wd), nv (p : Int), nv (no : Int), (.agg ⟨[nv s.src, nv s.tag, nv s.size, nv s.err]⟩), .string ⟨⟨d⟩⟩] h (fun r => r.1 = .bool true ∧ Nxt (W1.over p no) G h r.2) := by
 refine Calls_W 40 Try.f22 ?_
 have T0 : Sm Nix h h := .refl
 refine W_seq (W_region ?_)
 have m283 : ¬ (Gh.mut G) h.next ∧ ¬ (Gh.ro G) h.next := ⟨(R.ext T0).op.new (Nat.le_refl _), (R.ext T0).op.newr (Nat.le_refl _)⟩
 refine L_nwc [nv s.src, nv s.tag, nv s.size, nv s.err] .ptr rfl rfl kr fun h283 c283 t283 n283 => ?_
 have T283 := T0.ext t283
 have N283 := T283.nx
 refine L_g 1 kr (L_nil (W_sg 3 kr (L_c rfl rfl kr (test_recv (R.ext T283) hp hm hact he1 hdone hsd (by rw [hda]; exact hdl)) ?_)))
 rintro v284 h284 ⟨vd, e284, HD, -, N284⟩
 dsimp only at e284 HD N284
 rw [hst] at e284
 rw [hda] at HD
 subst e284
 obtain ⟨S284, C284, ro284, R284, Y284⟩ := N284
 have X284 := ((Gx.refl).trans (Gx.of T283)).trans Y284
 have m283_284 : ¬ (Gh.mut ⟨Gh.B G, S284, C284, ro284⟩) (h.next) ∧ ¬ (Gh.ro ⟨Gh.B G, S284, C284, ro284⟩) (h.next) := ⟨fun hm => (Y284.mu _ hm).elim m283.1 (fun e => by have := c283.lt; omega), fun hm => (Y284.ron _ hm).elim m283.2 (fun e => by have := c283.lt; omega)⟩
 replace c283 := c283.sm Y284.sm m283.1
 have T284 : Sm (Ow h (⟨Gh.B G, S284, C284, ro284⟩ : Gh)) h284 h284 := .refl
 refine L_g 5 kr ?_
 have m285 : ¬ (Gh.mut (⟨Gh.B G, S284, C284, ro284⟩ : Gh)) h284.next ∧ ¬ (Gh.ro (⟨Gh.B G, S284, C284, ro284⟩ : Gh)) h284.next := ⟨(R284.ow T284).op.new (Nat.le_refl _), (R284.ow T284).op.newr (Nat.le_refl _)⟩
 refine L_nw (Al.cells [nv 0, nv 0, nv 0, nv 0]) .ptr rfl rfl kr ?_
 have l285_t8 := c283.lt
 have c285 : Cl (h284.push (Al.cells [nv 0, nv 0, nv 0, nv 0]).obj) h284.next [nv 0, nv 0, nv 0, nv 0] := Cl.new h284 _
 have t285 : Sm Nix h284 (h284.push (Al.cells [nv 0, nv 0, nv 0, nv 0]).obj) := .push h284 _
 have n285 : (h284.push (Al.cells [nv 0, nv 0, nv 0, nv 0]).obj).next = h284.next + 1 := rfl
 generalize h284.push (Al.cells [nv 0, nv 0, nv 0, nv 0]).obj = h285 at c285 t285 n285 ⊢
 replace c283 := c283.ext t285
 have T285 : Sm (Ow h (⟨Gh.B G, S284, C284, ro284⟩ : Gh)) h284 h285 := T284.ext t285
 have N285 := T285.nx
 have HL : ∀ b, vb vd = some b → b < h284.next := fun b hb => HD.lt hb
 replace HD := HD.ext t285
 obtain ⟨h286, e286, d286, t286, n286⟩ := c285.sA 43 [nv s.src, nv s.tag, nv s.size, nv s.err]
 replace c283 := c283.sn t286
 replace c285 := d286
 have T286 : Sm (Ow h (⟨Gh.B G, S284, C284, ro284⟩ : Gh)) h284 h286 := T285.trans t286 (fun x hx => by have hx : x = h284.next := hx; subst hx; first | exact .inr (by omega) | exact .inl ⟨by omega, m285.1, m285.2⟩ | exact .inl rfl)
 have N286 := T286.nx
 refine L_st _ rfl rfl rfl kr kr (e286) ?_
 replace HD := HD.sm t286 (fun b hb e => by have := HL b hb; first | omega | (cases e; omega))
 refine L_g 3 kr (L_nil (W_sg 3 kr (L_want kr (L_p (.bool true) rfl kr (L_g 2 kr (L_want kr (L_ld _ rfl rfl kr (Cl.allN (n := 4) c285 rfl kr) (L_want kr (L_ld _ rfl rfl kr (Cl.allN (n := 4) c283 rfl kr) ?_)))))))))
 refine L_want kr (L_p (.bool true) rfl (ev_bin (o := _) rfl kr kr (eql_st s _ _ _)) (L_g 3 kr (L_want kr (L_p (.string ⟨⟨d⟩⟩) rfl (ev_conv (o := _) rfl kr (str_ok HD)) (L_g 1 kr (L_want kr (L_p (.bool true) rfl (ev_bin (o := _) rfl kr kr (eq_str d)) (L_g 2 kr (L_nil (W_ret ?_))))))))))
 repeat first | with_reducible refine then_ret ?_ | with_reducible refine blk_ret ?_
 refine done_of (v := .bool true) (.inl rfl) kr ?_
 exact ⟨rfl, _, _, _, (R284.ow T286), ((X284).ow T286)⟩
end
end Go.Proofs.Ytmehemeoaplepaa
namespace Go.Proofs.Ytmehemeoaplepaa
noncomputable section
open Go Go.X Go.Arm Go.Mt
structure Old (h0 : AH) (G : Gh) (h : AH) : Prop where
 sm : Sm (fun b => h0.next ≤ b) h0 h
 mu : ∀ b, G.mut b → h0.next ≤ b
section
variable {h0 h h' : AH} {G G' : Gh} {v : Value} {cs : List Value} {n k : Nat}
theorem Old.go (O : Old h0 G h) (X : Gx G h G' h') : Old h0 G' h' := ⟨O.sm.then (X.sm.mono fun b hb => O.mu b hb), fun b hb => (X.mu b hb).elim (O.mu b) fun e => Nat.le_trans O.sm.nx e⟩
theorem Old.sd (O : Old h0 G h) (H : Sd h0 k v n cs) : Sd h k v n cs := H.sm O.sm fun b hb hs => by
 have e1 := H.lt hb
 have e2 : h0.next ≤ b := hs
 omega
end
end
end Go.Proofs.Ytmehemeoaplepaa

namespace Go.Proofs.Ytmehemeoaplepaa
open Go Go.ChangeShapes Go.WideShapes Go.ChangeAt Go.RowKit
theorem own : ownKnob Try.prog.godebug = none := by kernel_rfl
theorem law_calls {P : Program} [Go.X.Kn P] (hN : Go.X.NoCount P) (hM : P.follows .mixedOrders = true) {f : FuncId} {args : List Value} {args' : Array Value} {W : World} {h : Go.X.AH} {φ : Go.X.Phi} (hR : Go.X.R W φ h W)
  (ha : Go.X.LR φ args args'.toList) (hs : Arm.Calls P f args h (fun r => r.1 = .bool true)) : Go.Calls P f args' W fun e w' => e = .returned (.bool true) ∧ RowKit.Below W.heap.size W w' := by
 obtain ⟨l, hl, hall⟩ := hs
 have hc := (Go.X.eRun_callsOk (P := P) hN hM W _ _ _ φ W (.enter f ⟨args'.toList⟩) hl hR (.enter ha)).1 _ _ rfl
 refine Go.Calls.mono hc fun e w' he => ?_
 obtain ⟨v', rfl, v, h', hm, φ', _, hr, hv⟩ := he
 have := hall _ hm
 dsimp only at this
 subst this
 cases hv
 exact ⟨rfl, hr.below⟩
theorem wf8 {n : Int} (h3 : (Lit.int .u8 n).wf = true) : 0 ≤ n ∧ n < 256 := by
 simp [Lit.wf] at h3
 have e1 : IntKind.u8.min = 0 := by decide
 have e2 : IntKind.u8.max = 255 := by decide
 rw [e1, e2] at h3
 omega
theorem u8in {P : Program} {t : TypeId} (ht : P.underlying t = some (.int .u8)) {H : Type} {enc : TypeId × Value → H} {w : World} {base : Nat} {spare : Nat → Bool} {held : Bool} {n : Int} {d : DataW H} {ps : List MemPlace}
  (h : DataW.Trod enc P w base spare held t (.int .u8 n) d ps) : 0 ≤ n ∧ n < 256 := by
 obtain ⟨fuel, h⟩ := h
 obtain ⟨n', h1, _, h2⟩ := DataW.trod_int ht h
 have : [Value.int .u8 n] = [Value.int .u8 n'] := h1
 cases this
 exact wf8 h2
theorem openByte {H : Type} {enc : TypeId × Value → H} {w : World} {base : Nat} {spare : Nat → Bool} {held : Bool} (fuel : Nat) (cs : List Value) (x : DataW H × List MemPlace) (h : DataW.trod enc Try.prog w base spare held fuel 5 cs = some x) : ∃ a : UInt8, True ∧ cs = [Arm.bv a] := by
 obtain ⟨n, e, _, hw⟩ := DataW.trod_int Try.underlying5 h
 have := wf8 hw
 refine ⟨UInt8.ofNat n.toNat, trivial, e.trans ?_⟩
 unfold Arm.bv
 have : ((UInt8.ofNat n.toNat).toNat : Int) = n := by
  rw [UInt8.toNat_ofNat']
  omega
 rw [this]
theorem flat1 (L : Go.Mt.By) : L.flatMap (fun a => [Arm.bv a]) = L.map Arm.bv := by
 induction L with
 | nil => rfl
 | cons x l ih => rw [List.flatMap_cons, List.map_cons, ih]; rfl
theorem bytes_of {W : World} {H : Type} {enc : TypeId × Value → H} {held : Bool} {b0 : Option Addr} {len0 cap0 : Nat} {d : DataW H} {ps : List MemPlace}
  (h : DataW.Trod enc Try.prog W 0 (fun _ => true) held 23 (.slice b0 len0 cap0) d ps) (hz : W.noneFrozen ps) : ∃ l : Go.Mt.By, Go.X.HeldK 1 W (.slice b0 len0 cap0) l.length (l.map Arm.bv) := by
 obtain ⟨L, _, K⟩ := Go.X.heldK_of (k := 1) (f := fun a => [Arm.bv a]) (ok := fun _ => True) (by decide) (fun a => rfl) (fun a x hx φ => by
   rw [List.mem_singleton.1 hx]; exact .int _ _) Try.underlying23 (by kernel_rfl) openByte h hz
 refine ⟨L, ?_⟩
 rw [← flat1]
 exact K
end Go.Proofs.Ytmehemeoaplepaa
namespace Go.Proofs.Ytmehemeoaplepaa
noncomputable section
open Go Go.X Go.Arm Go.Mt
set_option maxHeartbeats 1000000 in
theorem add_okP {W : Wd} {G : Gh} {h : AH} {p : Nat} {r0 : Rq} {W' : Wd} (R : Rep W G h) (hp : p < W.n) (hrd : r0.data = []) {vp vs : Value} {csP : List Value} {G0 : Gh} {h0 : AH} (XG : Gx G0 h0 G h) (HP : ∀ (h : AH) (ro : Nat → Prop), Ls (RPc h ro) 1 r0.pcs csP) (AP : Ws h 1 vp r0.pcs.length csP) (AS : Ws h 1 vs r0.sent.length (r0.sent.map .bool)) (hbp : ∀ d, vbx vp = some d → h0.next ≤ d ∧ ¬ G.mut d ∧ ¬ G.ro d ∧ d < h.next) (hbs : ∀ d, vbx vs = some d → h0.next ≤ d ∧ ¬ G.mut d ∧ ¬ G.ro d ∧ d < h.next ∧ vbx vp ≠ some d) (he : W.add p r0 = some W') :
   Arm.Calls Try.prog 43 [ptr (G.B .wd), nv (p : Int), .agg ⟨[nk r0.no, nv r0.peer, nv r0.ctx, nv r0.tag, nv r0.room, .bool r0.send, .bool r0.sync, .bool r0.pers, .bool r0.act, .bool r0.done, nk r0.parts, nk r0.size, .slice none 0 0, vp, nk r0.gone, vs, .bool r0.clr, nv r0.st.src, nv r0.st.tag, nv r0.st.size, nv r0.st.err]⟩] h (fun r => ∃ b S C ro, Rep W' ⟨ups G.B (.rq p (W.pr p).next) b, S, C, ro⟩ r.2 ∧ Gx G0 h0 ⟨ups G.B (.rq p (W.pr p).next) b, S, C, ro⟩ r.2 ∧ C (.rq p (W.pr p).next) ≠ .no ∧ r.1 = ptr b) := by
 unfold Wd.add at he
 split at he
 rotate_right
 · cases he
 rename_i hc
 obtain ⟨hnx, hnot⟩ := hc
 have hnx : (W.pr p).next < 1000000000 := hnx
 obtain rfl := Option.some.inj he
 have hpl := R.prLt hp
 refine Calls_W 33 Try.f43 ?_
 have T0 : Sm Nix h h := .refl
 refine W_seq (W_region ?_)
 have m475 : ¬ (Gh.mut G) h.next ∧ ¬ (Gh.ro G) h.next := ⟨(R.ext T0).op.new (Nat.le_refl _), (R.ext T0).op.newr (Nat.le_refl _)⟩
 refine L_nwc [nk r0.no, nv r0.peer, nv r0.ctx, nv r0.tag, nv r0.room, .bool r0.send, .bool r0.sync, .bool r0.pers, .bool r0.act, .bool r0.done, nk r0.parts, nk r0.size, .slice none 0 0, vp, nk r0.gone, vs, .bool r0.clr, nv r0.st.src, nv r0.st.tag, nv r0.st.size, nv r0.st.err] .ptr rfl rfl kr fun h475 c475 t475 n475 => ?_
 have T475 := T0.ext t475
 have N475 := T475.nx
 refine L_g 1 kr (L_nil (W_sg 3 kr (L_ld _ rfl rfl kr ((R.ext T475).wdL.ld (o := 1) kr rfl) (L_g 1 kr ?_))))
 obtain ⟨b1, o1, i1, l1⟩ := (R.ext T475).prsAt (P := Try.prog) (T := 74) (el := 77) kr kr kr hp
 refine L_ix _ rfl rfl kr kr (i1) (L_ld _ rfl rfl kr (l1) (L_g 1 kr (L_nil (W_sg 3 kr (L_ld _ rfl rfl kr (((R.ext T475).prL hp).ld (o := 0) kr rfl) (L_g 1 kr ?_))))))
 obtain ⟨h476, e476, d476, t476, n476⟩ := c475.s1 3 0 (nk (W.pr p).next)
 replace d476 : Cl h476 (h.next) [nk (W.pr p).next, nv r0.peer, nv r0.ctx, nv r0.tag, nv r0.room, .bool r0.send, .bool r0.sync, .bool r0.pers, .bool r0.act, .bool r0.done, nk r0.parts, nk r0.size, .slice none 0 0, vp, nk r0.gone, vs, .bool r0.clr, nv r0.st.src, nv r0.st.tag, nv r0.st.size, nv r0.st.err] := d476
 replace c475 := d476
 have T476 := T475.tr t476
 have N476 := T476.nx
 refine L_st _ rfl rfl rfl kr kr (e476) (L_nil (W_sg 3 kr (L_ld _ rfl rfl kr (((R.ext T476).prL hp).ld (o := 0) kr rfl) (L_i (((W.pr p).next : Int)) (1) (nk ((W.pr p).next + 1)) rfl rfl kr kr rfl (inc_ok hnx) (L_g 2 kr ?_)))))
 obtain ⟨h477, e477, d477, t477, n477⟩ := ((R.ext T476).prL hp).store (P := Try.prog) (T := 3) (o := 0) (v := nk ((W.pr p).next + 1)) kr rfl rfl (by simp [prC])
 obtain ⟨S0, C0, ro0, ⟨R0, Y0⟩, f0⟩ := (R.ext T476).setNextF hp ((W.pr p).next + 1) (Nat.le_succ _) d477 t477 (R.fresh hp)
 have X0 := ((Gx.refl).trans (Gx.of T476)).trans Y0
 have l5 := c475.lt
 have m9 : ¬ (Gh.mut ⟨G.B, S0, C0, ro0⟩) (h.next) ∧ ¬ ro0 (h.next) := ⟨fun hm => (Y0.mu _ hm).elim m475.1 (fun e => by omega), fun hm => (Y0.ron _ hm).elim m475.2 (fun e => by omega)⟩
 have hprm : ∀ d, d = G.B (.pr p) → G.mut d := fun d e => ⟨.pr p, by rw [(R.rel.pr p hp).pr]; simp, by subst e; rfl⟩
 have AP3 := (AP.sm T476 (fun _ _ x => x)).smx t477 (fun b hb e => (hbp b hb).2.1 (hprm b e))
 have AS3 := (AS.sm T476 (fun _ _ x => x)).smx t477 (fun b hb e => (hbs b hb).2.1 (hprm b e))
 have LL9 := (T476).nx
 refine L_st _ rfl rfl rfl kr kr (e477) ?_
 replace c475 := c475.sn t477
 have T477 : Sm Nix h477 h477 := .refl
 refine L_nil (W_seq (W_drawn kr (D_e (e := 6) (l := [0,1,2,3,4,5]) (s' := []) kr kr rfl kr Rk_nil (NS_b 3 kr (NS_ld _ rfl rfl kr kr kr (((R0.ext T477).prL hp).ld (o := 1) kr rfl) (NS_b 1 kr (NS_ld _ rfl rfl kr kr kr (c475.ld (o := 0) kr rfl) (NS_nil ?_))))))))
 have hn9 : (W.pr p).next < ((W.setPr p { W.pr p with next := (W.pr p).next + 1 }).pr p).next := by rw [Wd.setPr_at]; exact Nat.lt_succ_self _
 have hown : ∀ d, d < h.next → ¬ G.mut d → ¬ G.ro d → ¬ (Gh.mut ⟨G.B, S0, C0, ro0⟩) d ∧ ¬ ro0 d ∧ d ≠ h.next := fun d hl h1 h2 => ⟨fun hm => (Y0.mu _ hm).elim h1 (fun e => by omega), fun hm => (Y0.ron _ hm).elim h2 (fun e => by omega), by omega⟩
 have l0 := XG.sm.nx
 obtain ⟨C9, R9, X9, hr9⟩ := Rep.adoptP (R0.ext T477) (XG.trans ((X0).trans (Gx.of T477))) (W := (W.setPr p { W.pr p with next := (W.pr p).next + 1 })) hp hn9 f0 (r := { r0 with no := (W.pr p).next }) (dv := nilS) ⟨by omega, m9⟩ (by show Dr _ _ _ r0.data; rw [hrd]; exact ⟨Rb.nil, fun b hb => by cases hb⟩) (HP _ _) (AP3.sm T477 (fun _ _ x => x)) (AS3.sm T477 (fun _ _ x => x)) (fun d hd => by
   obtain ⟨q1, q2, q3, q4⟩ := hbp d hd
   obtain ⟨s1, s2, s3⟩ := hown d q4 q2 q3
   exact ⟨q1, s1, s2, s3⟩) (fun d hd => by
   obtain ⟨q1, q2, q3, q4, q5⟩ := hbs d hd
   obtain ⟨s1, s2, s3⟩ := hown d q4 q2 q3
   exact ⟨q1, s1, s2, s3, q5⟩) c475
 have hE := R9.rqs (p := p) hp
 obtain ⟨h478, e478, mp478, t478, n478⟩ := hE.1.update (P := Try.prog) (T := 78) (el := 103) kr kNum ((W.pr p).next : Int) (v := ptr (h.next)) (y := ptr (h.next)) rfl
 have hB9 : ups G.B (.rq p (W.pr p).next) (h.next) (.rq p (W.pr p).next) = h.next := ups_at _ _ _
 have e9 := kset_new (f := fun k => ptr (ups G.B (.rq p (W.pr p).next) (h.next) (.rq p k))) hnot
 rw [hB9] at e9
 have hq9 : ((W.setPr p { W.pr p with next := (W.pr p).next + 1 }).pr p).reqs = (W.pr p).reqs := by rw [Wd.setPr_at]
 have mp9478 : Mp h478 (G.B (.rqs p)) nv Eq (((W.pr p).reqs ++ [(W.pr p).next]).map fun (k : Nat) => ((k : Int), ptr (ups G.B (.rq p (W.pr p).next) (h.next) (.rq p k)))) := e9 ▸ (by have := mp478; rw [show (((W.setPr p { W.pr p with next := (W.pr p).next + 1 }).setRq p (W.pr p).next { r0 with no := (W.pr p).next }).pr p).reqs = (W.pr p).reqs from hq9] at this; exact this)
 obtain ⟨S8, C8, ro8, R8, Y8⟩ := R9.setRqs (p := p) hp (l := (W.pr p).reqs ++ [(W.pr p).next]) (fun k hk => by
   rcases List.mem_append.1 hk with hk | hk
   · exact (R9.rel.pr p hp).rqp k (by rw [show (((W.setPr p { W.pr p with next := (W.pr p).next + 1 }).setRq p (W.pr p).next { r0 with no := (W.pr p).next }).pr p).reqs = (W.pr p).reqs from hq9]; exact hk)
   · cases List.mem_singleton.1 hk; exact hr9) mp9478 (hE.2.update e478) t478
 have X8 := X9.trans Y8
 refine L_mu _ rfl rfl rfl kr kr kr e478 ?_
 replace c475 := c475
 have T478 : Sm Nix h478 h478 := .refl
 refine L_nil ⟨rfl, ?_⟩
 refine D_l (l := []) kr kr Rk_nil (NS_nil (W_sg 1 kr (L_nil (W_ret ?_))))
 repeat first | with_reducible refine then_ret ?_ | with_reducible refine blk_ret ?_
 refine done_of (v := ptr (h.next)) (.inl rfl) kr ?_
 have hw9 : (((W.setPr p { W.pr p with next := (W.pr p).next + 1 }).setRq p (W.pr p).next { r0 with no := (W.pr p).next }).setPr p { ((W.setPr p { W.pr p with next := (W.pr p).next + 1 }).setRq p (W.pr p).next { r0 with no := (W.pr p).next }).pr p with reqs := (W.pr p).reqs ++ [(W.pr p).next] }) = (((W.setPr p { W.pr p with next := (W.pr p).next + 1 }).setRq p (W.pr p).next { r0 with no := (W.pr p).next }).setPr p { W.pr p with next := (W.pr p).next + 1, reqs := (W.pr p).reqs ++ [(W.pr p).next] }) := by
   rw [show ((W.setPr p { W.pr p with next := (W.pr p).next + 1 }).setRq p (W.pr p).next { r0 with no := (W.pr p).next }).pr p = { W.pr p with next := (W.pr p).next + 1 } from Wd.setPr_at _ _ _]
 rw [hw9] at R8
 exact ⟨h.next, S8, C8, ro8, R8, X8, (Y8.keep (.rq p (W.pr p).next) hr9).1, rfl⟩
set_option maxHeartbeats 1000000 in
theorem begin_okP {W : Wd} {G : Gh} {h : AH} {p : Nat} {r0 : Rq} {W1 W2 W3 : Wd} (R : Rep W G h) (hp : p < W.n) (hfull : (W.pr p).reqs.length < 256) (hrd : r0.data = []) {vp vs : Value} {csP : List Value} {G0 : Gh} {h0 : AH} (XG : Gx G0 h0 G h) (HP : ∀ (h : AH) (ro : Nat → Prop), Ls (RPc h ro) 1 r0.pcs csP) (AP : Ws h 1 vp r0.pcs.length csP) (AS : Ws h 1 vs r0.sent.length (r0.sent.map .bool)) (hbp : ∀ d, vbx vp = some d → h0.next ≤ d ∧ ¬ G.mut d ∧ ¬ G.ro d ∧ d < h.next) (hbs : ∀ d, vbx vs = some d → h0.next ≤ d ∧ ¬ G.mut d ∧ ¬ G.ro d ∧ d < h.next ∧ vbx vp ≠ some d) (he1 : W.call p = some W1) (he2 : W1.add p r0 = some W2) (he3 : W2.start p (W1.pr p).next [] = some W3) :
  Arm.Calls Try.prog 31 [ptr (G.B .wd), nv (p : Int), .agg ⟨[nk r0.no, nv r0.peer, nv r0.ctx, nv r0.tag, nv r0.room, .bool r0.send, .bool r0.sync, .bool r0.pers, .bool r0.act, .bool r0.done, nk r0.parts, nk r0.size, .slice none 0 0, vp, nk r0.gone, vs, .bool r0.clr, nv r0.st.src, nv r0.st.tag, nv r0.st.size, nv r0.st.err]⟩, (.slice none 0 0)] h (fun r => r.1 = .tuple ⟨[nk (W3.rq p (W1.pr p).next).no, nv 0]⟩ ∧ (∃ b S C ro, Rep W3 ⟨ups G.B (.rq p (W1.pr p).next) b, S, C, ro⟩ r.2 ∧ Gx G0 h0 ⟨ups G.B (.rq p (W1.pr p).next) b, S, C, ro⟩ r.2)) := by
 have hp1 : p < W1.n := by rw [Wd.call_n he1]; exact hp
 have hp2 : p < W2.n := by rw [Wd.add_n he2]; exact hp1
 have hp3 : p < W3.n := by rw [Wd.start_n he3]; exact hp2
 have owl : ∀ {G9 : Gh} {a b : AH}, Sm (Ow h G9) a b → Sm (Ow h0 G9) a b := fun t => t.mono (fun d hd => ⟨by have := XG.sm.nx; have := hd.1; omega, hd.2⟩)
 refine Calls_W 34 Try.f31 ?_
 have T0 : Sm Nix h h := .refl
 refine W_seq (W_region ?_)
 have m479 : ¬ (Gh.mut G) h.next ∧ ¬ (Gh.ro G) h.next := ⟨(R.ext T0).op.new (Nat.le_refl _), (R.ext T0).op.newr (Nat.le_refl _)⟩
 refine L_nwc [nk r0.no, nv r0.peer, nv r0.ctx, nv r0.tag, nv r0.room, .bool r0.send, .bool r0.sync, .bool r0.pers, .bool r0.act, .bool r0.done, nk r0.parts, nk r0.size, .slice none 0 0, vp, nk r0.gone, vs, .bool r0.clr, nv r0.st.src, nv r0.st.tag, nv r0.st.size, nv r0.st.err] .ptr rfl rfl kr fun h479 c479 t479 n479 => ?_
 have T479 := T0.ext t479
 have N479 := T479.nx
 refine L_g 2 kr (L_nil (W_seq (W_sg 2 kr (L_c rfl rfl kr (full_ok (R.ext T479) hp (b := false) (by simp; omega)) ?_))))
 rintro v480 h480 ⟨e480, t480⟩
 try dsimp only at e480
 try dsimp only at t480
 subst e480
 replace c479 := c479.ext t480
 have T480 := T479.ext t480
 have N480 := T480.nx
 have M480 := t480.nx
 refine L_g 1 kr (L_nil (W_sg 2 kr (L_nil ?_)))
 refine W_cond false kr (fun e => by cases e) (fun _ => ?_)
 refine W_skip (W_sg 2 kr (L_c rfl rfl kr (call_ok (R.ext T480) hp he1) ?_))
 rintro v481 h481 ⟨e481, N481⟩
 dsimp only at e481 N481
 subst e481
 obtain ⟨S481, C481, ro481, R481, Y481⟩ := N481
 have X481 := ((Gx.refl).trans (Gx.of T480)).trans Y481
 have m479_481 : ¬ (Gh.mut ⟨Gh.B G, S481, C481, ro481⟩) (h.next) ∧ ¬ (Gh.ro ⟨Gh.B G, S481, C481, ro481⟩) (h.next) := ⟨fun hm => (Y481.mu _ hm).elim m479.1 (fun e => by have := c479.lt; omega), fun hm => (Y481.ron _ hm).elim m479.2 (fun e => by have := c479.lt; omega)⟩
 replace c479 := c479.sm Y481.sm m479.1
 have T481 : Sm (Ow h (⟨Gh.B G, S481, C481, ro481⟩ : Gh)) h481 h481 := .refl
 refine L_nil (W_sg 2 kr (L_ld _ rfl rfl kr (Cl.allN (n := 21) c479 rfl kr) ?_))
 have hown : ∀ d, d < h.next → ¬ G.mut d → ¬ G.ro d → ¬ (Gh.mut (⟨Gh.B G, S481, C481, ro481⟩ : Gh)) d ∧ ¬ (Gh.ro (⟨Gh.B G, S481, C481, ro481⟩ : Gh)) d ∧ d < (h481).next := fun d hl h1 h2 => ⟨fun hm => ((((X481).ow T481)).mu _ hm).elim h1 (fun e => by omega), fun hm => ((((X481).ow T481)).ron _ hm).elim h2 (fun e => by omega), by have := (((X481).ow T481)).sm.nx; omega⟩
 refine L_c rfl rfl kr (add_okP (R481.ow T481) hp1 (r0 := r0) hrd (XG.trans ((X481).ow T481)) HP (AP.smx (((X481).ow T481)).sm (fun b hb => (hbp b hb).2.1)) (AS.smx (((X481).ow T481)).sm (fun b hb => (hbs b hb).2.1)) (fun d hd => by
  obtain ⟨q1, q2, q3, q4⟩ := hbp d hd
  obtain ⟨s1, s2, s3⟩ := hown d q4 q2 q3
  exact ⟨q1, s1, s2, s3⟩) (fun d hd => by
  obtain ⟨q1, q2, q3, q4, q5⟩ := hbs d hd
  obtain ⟨s1, s2, s3⟩ := hown d q4 q2 q3
  exact ⟨q1, s1, s2, s3, q5⟩) he2) ?_
 rintro v9 h482 ⟨b9, S9, C9, ro9, R9, Y9, hr9, e9⟩
 dsimp only at R9 Y9 hr9 e9
 subst e9
 have X9 := Y9
 have eB9 : ups (Gh.B (⟨Gh.B G, S481, C481, ro481⟩ : Gh)) (.rq p (W1.pr p).next) b9 (.rq p (W1.pr p).next) = b9 := ups_at _ _ _
 replace c479 := c479
 have T482 : Sm (Ow h (⟨ups (Gh.B (⟨Gh.B G, S481, C481, ro481⟩ : Gh)) (.rq p (W1.pr p).next) b9, S9, C9, ro9⟩ : Gh)) h482 h482 := .refl
 refine L_g 1 kr (L_nil (W_seq (W_region (L_g 4 kr ?_))))
 have hst := start_ok (d := []) (R9.ow T482) hp2 hr9 (s := (.slice none 0 0)) Rb.nil he3
 rw [show Gh.B (⟨ups (Gh.B (⟨Gh.B G, S481, C481, ro481⟩ : Gh)) (.rq p (W1.pr p).next) b9, S9, C9, ro9⟩ : Gh) (.rq p (W1.pr p).next) = b9 from eB9] at hst
 refine L_c rfl rfl kr (hst) ?_
 rintro v483 h483 N483
 dsimp only at N483
 obtain ⟨S483, C483, ro483, R483, Y483⟩ := N483
 have X483 := ((X9).ow (owl T482)).trans Y483
 have T483 : Sm (Ow h (⟨Gh.B (⟨ups (Gh.B (⟨Gh.B G, S481, C481, ro481⟩ : Gh)) (.rq p (W1.pr p).next) b9, S9, C9, ro9⟩ : Gh), S483, C483, ro483⟩ : Gh)) h483 h483 := .refl
 have hrz := (Y483.keep _ hr9).1
 obtain ⟨dvz, hdz, cz⟩ := R483.rqL (p := p) hp3 hrz
 rw [show Gh.B (⟨ups (Gh.B G) (.rq p (W1.pr p).next) b9, S483, C483, ro483⟩ : Gh) (.rq p (W1.pr p).next) = b9 from eB9] at cz
 refine L_nil (W_sg 3 kr (L_ld _ rfl rfl kr ((cz.sm T483 (fun hx => hx.2.1 ⟨.rq p (W1.pr p).next, hrz, congrArg some eB9⟩)).ld (o := 0) kr rfl) (L_g 2 kr (L_nil (W_ret ?_)))))
 repeat first | with_reducible refine then_ret ?_ | with_reducible refine blk_ret ?_
 refine done_of (v := .tuple ⟨[nk (W3.rq p (W1.pr p).next).no, nv 0]⟩) (.inl rfl) kr ?_
 exact ⟨rfl, b9, _, _, _, (R483.ow T483), ((X483).ow (owl T483))⟩
end
end Go.Proofs.Ytmehemeoaplepaa

namespace Go.Mt
open Go.Arm
inductive Tk
 | msg
 | wait
 | back
 | body
 | fin
deriving DecidableEq
structure Mv where
 p : Nat
 peer : Int
 send : Bool
 tag : Int
 d : By
 no : Nat
 sync : Bool
 ea : Bool
structure Ct where
 n : Nat
 lim : Int
 room : Int
 c0 : Int
structure Gs where
 k : Nat
 mv : Nat → Mv
 arr : Nat → List Nat
 post : Nat → List Nat
 way : Nat → Nat → List Nat
 inb : Nat → List Nat
 tk : Nat → Tk
 cb : Nat → List Nat
namespace Gs
variable (Γ : Gs)
end Gs
end Go.Mt
namespace Go.Mt
open Go.Arm
theorem nodup_len : ∀ (k : Nat) (l : List Nat), l.Nodup → (∀ x, x ∈ l → x < k) → l.length ≤ k
 | 0, l, _, h => by
  cases l with
  | nil => exact Nat.le_refl _
  | cons x l => exact absurd (h x List.mem_cons_self) (Nat.not_lt_zero _)
 | k + 1, l, hn, h => by
  have h1 := nodup_len k (l.erase k) (hn.erase _) fun x hx => by
   have h2 := h x (List.mem_of_mem_erase hx)
   have h3 : x ≠ k := fun e => by subst e; exact (List.Nodup.not_mem_erase hn) hx
   omega
  have h2 := List.length_erase (a := k) (l := l)
  split at h2 <;> omega
namespace Wd
end Wd
section
variable {C : Ct} {Γ : Gs} {W : Wd} {p i : Nat} {l : List Nat}
end
end Go.Mt




















namespace Go.Arm
noncomputable section
open Go Go.X Go.Mt
structure Mo where
 p : Nat
 q : Nat
 snd : Bool
 tag : Int
 size : Nat
 sync : Bool
section
variable {n i : Nat} {l : List Mo} {m : Mo}
end
inductive Tx
 | no
 | cl (l : List Value)
 | gr (k n : Nat) (cs : List Value)
 | mi (m : List (Int × Value))
 | m3 (m : List ((Int × Int × Int) × Value))
def AtX (h : AH) (v : Value) : Tx → Prop
 | .no => True
 | .cl l => ∃ b, v = .slice (some ⟨b, 0, none⟩) l.length l.length ∧ Cl h b l
 | .gr k n cs => Gr h k v n cs
 | .mi m => ∃ b, v = .map (some b) ∧ Mp h b nv Eq m
 | .m3 m => ∃ b, v = .map (some b) ∧ Mp h b k3 Eq m
section
variable {h h' : AH} {S : Nat → Prop} {v : Value}
theorem AtX.sm {x : Tx} (A : AtX h v x) (s : Sm S h h') (hb : ∀ b, vbx v = some b → ¬ S b) : AtX h' v x := by
 cases x with
 | no => trivial
 | cl l => obtain ⟨b, rfl, c⟩ := A; exact ⟨b, rfl, c.sm s (hb b rfl)⟩
 | gr k n cs => exact Gr.smx A s hb
 | mi m => obtain ⟨b, rfl, c⟩ := A; exact ⟨b, rfl, c.sm s (hb b rfl) (fun _ _ e => e)⟩
 | m3 m => obtain ⟨b, rfl, c⟩ := A; exact ⟨b, rfl, c.sm s (hb b rfl) (fun _ _ e => e)⟩
theorem AtX.lt {x : Tx} (A : AtX h v x) (hx : x ≠ .no) {b : Nat} (hb : vbx v = some b) : b < h.next := by
 cases x with
 | no => exact (hx rfl).elim
 | cl l => obtain ⟨b', rfl, c⟩ := A; cases hb; exact c.lt
 | gr k n cs => exact Sd.ltx (Gr.sd A) hb
 | mi m => obtain ⟨b', rfl, c⟩ := A; cases hb; exact c.1
 | m3 m => obtain ⟨b', rfl, c⟩ := A; cases hb; exact c.1
def q4 {α : Type} (z a b c d : α) : Nat → α
 | 0 => a
 | 1 => b
 | 2 => c
 | 3 => d
 | _ => z
theorem q4_0 {α : Type} (z a b c d x : α) : ups (q4 z a b c d) 0 x = q4 z x b c d := by
 funext i; match i with | 0 => rfl | 1 => rfl | 2 => rfl | 3 => rfl | _ + 4 => rfl
end
def rg {α : Type} (f : Nat → α) (n : Nat) : List α := (List.range n).map f
theorem rg_len {α : Type} (f : Nat → α) (n : Nat) : (rg f n).length = n := by unfold rg; rw [List.length_map, List.length_range]
theorem rg_at {α : Type} {f : Nat → α} {n i : Nat} (h : i < n) : (rg f n)[i]? = some (f i) := by unfold rg; rw [List.getElem?_map, List.getElem?_range h]; rfl
theorem rg_set {α : Type} {f : Nat → α} {n i : Nat} {x : α} : (rg f n).set i x = rg (ups f i x) n := by
 unfold rg
 refine List.ext_getElem? fun j => ?_
 rw [List.getElem?_set, List.getElem?_map, List.getElem?_map, List.length_map, List.length_range]
 by_cases e : i = j
 · subst e
   rw [if_pos rfl]
   by_cases h : i < n
   · rw [if_pos h, List.getElem?_range h]; show _ = some (ups f i x i); rw [ups_at]
   · rw [if_neg h, List.getElem?_eq_none (by rw [List.length_range]; omega)]; rfl
 · rw [if_neg e]
   by_cases h : j < n
   · rw [List.getElem?_range h]; show _ = some (ups f i x j); rw [ups_ne _ _ (fun e2 => e e2.symm)]; rfl
   · rw [List.getElem?_eq_none (by rw [List.length_range]; omega)]; rfl
theorem rg_const {x : Value} (n : Nat) : zrep n [x] = rg (fun _ => x) n := by
 induction n with
 | zero => rfl
 | succ n ih =>
  unfold rg at ih ⊢
  rw [List.range_succ_eq_map, List.map_cons, List.map_map]
  show x :: zrep n [x] = _
  rw [ih]; rfl
end
end Go.Arm
namespace Go.Mt
abbrev rqP (snd : Bool) (q : Nat) (ctx tag : Int) (N M : Nat) : Rq := { no := 0, peer := (q : Int), ctx := ctx, tag := tag, room := 0, send := snd, sync := false, pers := false, act := false, done := false, parts := N, size := M, data := [], pcs := List.replicate N none, gone := 0, sent := List.replicate N false, clr := false, st := St.z }
namespace Wd
def rdy (w : Wd) (p no i : Nat) (d : By) : Option Wd :=
 if (w.rq p no).clr = true then (w.setRq p no (pget (w.rq p no) i d)).sparts p no else some (w.setRq p no (pget (w.rq p no) i d))
end Wd
end Go.Mt
namespace Go.Arm
noncomputable section
open Go Go.X Go.Mt
theorem zrep_rep (n : Nat) (x : Value) : zrep n [x] = List.replicate n x := by
 induction n with
 | zero => rfl
 | succ n ih => rw [zrep, ih]; rfl
theorem Ls.none (h : AH) (ro : Nat → Prop) : ∀ n : Nat, Ls (RPc h ro) 1 (List.replicate n none) (List.replicate n nilS)
 | 0 => .nil
 | n + 1 => .cons (c := [nilS]) ⟨nilS, rfl, rfl⟩ rfl (Ls.none h ro n)
end
end Go.Arm
namespace Go.Proofs.Ytmehemeoaplepaa
noncomputable section
open Go Go.X Go.Arm Go.Mt
theorem mul_gt {N M : Nat} (h : N * M ≤ 4096) : (4096 : Int) < IntKind.i64.wrap ((N : Int) * (M : Int)) → False := by
 intro h9
 have e : (N : Int) * (M : Int) = ((N * M : Nat) : Int) := by push_cast; rfl
 rw [e, IntKind.wrap_i64] at h9
 omega
set_option maxHeartbeats 1000000 in
theorem parts_ok {W : Wd} {G : Gh} {h : AH} {p q N M : Nat} {ctx tag : Int} {snd : Bool} {W1 W2 W3 : Wd} (R : Rep W G h) (hp : p < W.n) (hq : q < W.n) (hc0 : 0 ≤ ctx) (hc1 : ctx ≤ 1048576) (ht0 : 0 ≤ tag) (ht1 : tag ≤ 1048576) (hN1 : 1 ≤ N) (hN2 : N ≤ 64) (hM : M ≤ 4096) (hNM : N * M ≤ 4096) (hfull : (W.pr p).reqs.length < 256) (he1 : W.call p = some W1) (he2 : W1.add p (rqP snd q ctx tag N M) = some W2) (he3 : W2.start p (W1.pr p).next [] = some W3) :
  Arm.Calls Try.prog 19 [ptr (G.B .wd), nv (p : Int), .bool snd, nv (q : Int), nv ctx, nv tag, nv (N : Int), nv (M : Int)] h (fun r => r.1 = .tuple ⟨[nk (W3.rq p (W1.pr p).next).no, nv 0]⟩ ∧ (∃ b S C ro, Rep W3 ⟨ups G.B (.rq p (W1.pr p).next) b, S, C, ro⟩ r.2 ∧ Gx G h ⟨ups G.B (.rq p (W1.pr p).next) b, S, C, ro⟩ r.2)) := by
 refine Calls_W 64 Try.f19 ?_
 have T0 : Sm Nix h h := .refl
 refine W_sg 2 kr (L_nil (W_seq (W_sg 5 kr (L_c rfl rfl kr (check_qt (wild := false) (R.ext T0) hp hq hc0 hc1 ht0 ht1) ?_))))
 rintro v484 h484 ⟨e484, t484⟩
 try dsimp only at e484
 try dsimp only at t484
 subst e484
 have T484 := T0.ext t484
 have N484 := T484.nx
 have M484 := t484.nx
 refine L_g 1 kr (L_nil (W_sg 2 kr (L_nil ?_)))
 refine W_cond false kr (fun e => by cases e) (fun _ => ?_)
 refine W_skip (W_seq (W_sg 1 kr (L_i ((N : Int)) (1) (.bool false) rfl rfl kr kr rfl (by first | (simp; done) | (simp; omega)) (L_g 2 kr (L_want kr (L_i ((N : Int)) (64) (.bool false) rfl rfl kr kr rfl (by first | (simp; done) | (simp; omega)) (L_g 3 kr (L_want kr (L_i ((M : Int)) (0) (.bool false) rfl rfl kr kr rfl (by first | (simp; done) | (simp; omega)) ?_)))))))))
 refine L_g 3 kr (L_want kr (L_i ((M : Int)) (4096) (.bool false) rfl rfl kr kr rfl (by first | (simp; done) | (simp; omega)) (L_g 4 kr (L_want kr (L_p (.int .i64 (IntKind.i64.wrap ((N : Int) * (M : Int)))) rfl kr (L_want kr (L_i (IntKind.i64.wrap ((N : Int) * (M : Int))) (4096) (.bool false) rfl rfl kr kr rfl (congrArg Value.bool (decide_eq_false (mul_gt hNM))) (L_g 1 kr (L_nil ?_)))))))))
 refine W_cond false kr (fun e => by cases e) (fun _ => ?_)
 refine W_skip (W_seq (W_drawn kr (D_e (e := 13) (l := [0,1,2,3,4,5,6,7,8,9,10,11,12]) (s' := []) kr kr rfl kr Rk_nil (NS_b 9 kr (NS_new (Al.cells (zrep N [.slice none 0 0])) (.sl N N) rfl kr rfl rfl kr (ev_mkK (P := Try.prog) (k := 1) (el := 23) (z := .slice none 0 0) (by_ := 24) kr kr kr kr rfl (by omega) kr kr) ?_)))))
 have m485 : ¬ (Gh.mut G) h484.next ∧ ¬ (Gh.ro G) h484.next := ⟨(R.ext T484).op.new (Nat.le_refl _), (R.ext T484).op.newr (Nat.le_refl _)⟩
 have c485 : Cl (h484.push (Al.cells (zrep N [.slice none 0 0])).obj) h484.next (zrep N [.slice none 0 0]) := Cl.new h484 _
 have t485 : Sm Nix h484 (h484.push (Al.cells (zrep N [.slice none 0 0])).obj) := .push h484 _
 have n485 : (h484.push (Al.cells (zrep N [.slice none 0 0])).obj).next = h484.next + 1 := rfl
 generalize h484.push (Al.cells (zrep N [.slice none 0 0])).obj = h485 at c485 t485 n485 ⊢
 have T485 := T484.ext t485
 have N485 := T485.nx
 refine NS_b 1 kr (NS_new (Al.cells (zrep N [.bool false])) (.sl N N) rfl kr rfl rfl kr (ev_mkK (P := Try.prog) (k := 1) (el := 4) (z := .bool false) (by_ := 1) kr kr kr kr rfl (by omega) kr kr) ?_)
 have m486 : ¬ (Gh.mut G) h485.next ∧ ¬ (Gh.ro G) h485.next := ⟨(R.ext T485).op.new (Nat.le_refl _), (R.ext T485).op.newr (Nat.le_refl _)⟩
 have c486 : Cl (h485.push (Al.cells (zrep N [.bool false])).obj) h485.next (zrep N [.bool false]) := Cl.new h485 _
 have t486 : Sm Nix h485 (h485.push (Al.cells (zrep N [.bool false])).obj) := .push h485 _
 have n486 : (h485.push (Al.cells (zrep N [.bool false])).obj).next = h485.next + 1 := rfl
 generalize h485.push (Al.cells (zrep N [.bool false])).obj = h486 at c486 t486 n486 ⊢
 replace c485 := c485.ext t486
 have T486 := T485.ext t486
 have N486 := T486.nx
 refine NS_b 1 kr (NS_nil ?_)
 have X9p : Gx G h G (h486) := (((Gx.refl).trans (Gx.of T486)))
 have C57 := c485
 have C59 := c486
 rw [zrep_rep] at C57 C59
 have A57 := C57.ws (n := (List.replicate N (none : Option By)).length) (by rw [List.length_replicate, List.length_replicate])
 have A59 := C59.ws (n := (List.replicate N false).length) (by rw [List.length_replicate, List.length_replicate])
 rw [show List.replicate N (Value.bool false) = (List.replicate N false).map Value.bool from (List.map_replicate ..).symm] at A59
 have L57 := c485.lt
 have L59 := c486.lt
 have e57 : (List.replicate N (none : Option By)).length = N := List.length_replicate ..
 have e59 : (List.replicate N false).length = N := List.length_replicate ..
 rw [e57] at A57
 rw [e59] at A59
 refine L_c rfl rfl kr (begin_okP (r0 := (rqP snd q ctx tag N M)) (R.ext T486) hp hfull rfl (csP := List.replicate N nilS) (vp := (.slice (some ⟨h484.next, 0, none⟩) N N)) (vs := (.slice (some ⟨h485.next, 0, none⟩) N N)) X9p (fun h ro => Ls.none h ro N) (by rw [show (rqP snd q ctx tag N M).pcs.length = N from e57]; exact A57) (by rw [show (rqP snd q ctx tag N M).sent.length = N from e59]; exact A59)
  (fun d hd => by
   have e9 : h484.next = d := Option.some.inj hd
   subst e9
   exact ⟨by omega, m485.1, m485.2, L57⟩) (fun d hd => by
   have e9 : h485.next = d := Option.some.inj hd
   subst e9
   exact ⟨by omega, m486.1, m486.2, L59, fun e => by have e8 : h484.next = h485.next := Option.some.inj e; omega⟩) he1 he2 he3) ?_
 rintro v487 h487 ⟨e487, b9, S9, C9, ro9, R9, Y9⟩
 dsimp only at e487 R9 Y9
 subst e487
 replace c485 := c485
 replace c486 := c486
 have T487 : Sm Nix h487 h487 := .refl
 refine L_nil ⟨rfl, ?_⟩
 refine D_l (l := [14,15,16,17]) kr kr Rk_nil (NS_b 4 kr (NS_nil (W_ret ?_)))
 repeat first | with_reducible refine then_ret ?_ | with_reducible refine blk_ret ?_
 refine done_of (v := .tuple ⟨[nk (W3.rq p (W1.pr p).next).no, nv 0]⟩) (.inl rfl) kr ?_
 exact ⟨rfl, b9, S9, C9, ro9, R9.ext T487, Y9.ext T487⟩
end
end Go.Proofs.Ytmehemeoaplepaa
namespace Go.Proofs.Ytmehemeoaplepaa
noncomputable section
open Go Go.X Go.Arm Go.Mt
theorem pieceX {W : Wd} {G : Gh} {h : AH} {p no k : Nat} {x : Option By} (R : Rep W G h) (hp : p < W.n) (hr : G.C (.rq p no) ≠ .no) (hx : (W.rq p no).pcs[k]? = some x) :
  ∃ pa v, aIndex Try.prog 65 (G.S (.pcs p no)) (nv (k : Int)) = some (.pointer (some pa)) ∧ (∀ (h0 h' : AH), Sm (Ow h0 G) h h' → aLoad Try.prog 23 pa h' = some v) ∧ (match x with | none => v = nilS | some d => Dr h G.ro v d ∧ ∃ a n c, v = .slice (some a) n c) := by
 obtain ⟨cs, A, H, hC⟩ := R.pcs hp hr
 have hk : k < (W.rq p no).pcs.length := (List.getElem?_eq_some_iff.1 hx).1
 obtain ⟨pa, xa, i1, i2, i3, i4, i5⟩ := (A).elem (P := Try.prog) (T := 65) (el := 23) kr kr kr hk .i64
 obtain ⟨c, ⟨v, rfl, hv⟩, _, hc⟩ := H.get hx
 have := hc 0 (by decide)
 rw [Nat.mul_one, Nat.add_zero] at this
 rw [i2] at this
 cases this
 refine ⟨pa, xa, i1, fun h0 h' t => ?_, by cases x <;> exact hv⟩
 obtain ⟨pab, xab, i1b, i2b, i3b, i4b, i5b⟩ := (A.smx t (fun b hb e => e.2.1 ⟨.pcs p no, hC, hb⟩)).elem (P := Try.prog) (T := 65) (el := 23) kr kr kr hk .i64
 rw [i1] at i1b
 cases i1b
 rw [i2] at i2b
 cases i2b
 exact i3b
theorem parted_t {W : Wd} {G : Gh} {h : AH} {p no i : Nat} (R : Rep W G h) (hp : p < W.n) (hm : no ∈ (W.pr p).reqs) (hs : (W.rq p no).send = true) (hpt : 0 < (W.rq p no).parts) (hi : i < (W.rq p no).parts) :
  Arm.Calls Try.prog 40 [ptr (G.B .wd), nv (p : Int), nv (no : Int), nv (i : Int), .bool true] h (fun r => r.1 = .tuple ⟨[ptr (G.B (.rq p no)), nv 0]⟩ ∧ Sm Nix h r.2) := by
 have hr := (R.rel.pr p hp).rqp no hm
 obtain ⟨dv0, hd0, c0⟩ := R.rqL hp hr
 replace c0 : Arm.Cl h (G.B (.rq p no)) [nk (W.rq p no).no, nv (W.rq p no).peer, nv (W.rq p no).ctx, nv (W.rq p no).tag, nv (W.rq p no).room, .bool (W.rq p no).send, .bool (W.rq p no).sync, .bool (W.rq p no).pers, .bool (W.rq p no).act, .bool (W.rq p no).done, nk (W.rq p no).parts, nk (W.rq p no).size, dv0, G.S (.pcs p no), nk (W.rq p no).gone, G.S (.snt p no), .bool (W.rq p no).clr, nv (W.rq p no).st.src, nv (W.rq p no).st.tag, nv (W.rq p no).st.size, nv (W.rq p no).st.err] := c0
 refine Calls_W 51 Try.f40 ?_
 have T0 : Sm Nix h h := .refl
 refine W_sg 2 kr (L_nil (W_sg 3 kr (L_c rfl rfl kr (req_ok (R.ext T0) hp hm) ?_)))
 rintro v495 h495 ⟨e495, t495⟩
 try dsimp only at e495
 try dsimp only at t495
 subst e495
 have T495 := T0.ext t495
 have N495 := T495.nx
 have M495 := t495.nx
 refine L_g 5 kr (L_nil (W_seq (W_block (W_sg 3 kr (L_nil ?_)))))
 refine W_cond false kr (fun e => by cases e) (fun _ => ?_)
 refine W_sg 3 kr (L_ld _ rfl rfl kr ((c0.ext T495).ld (o := 10) kr rfl) (L_i (((W.rq p no).parts : Int)) (0) (.bool false) rfl rfl kr kr rfl (congrArg Value.bool (decide_eq_false (by omega))) (L_g 4 kr (L_want kr (L_ld _ rfl rfl kr (((c0.ext T495).ld (o := 5) kr (by rw [← hs]; rfl) : aLoad Try.prog 4 ⟨G.B (.rq p no), 5, none⟩ h495 = some (.bool true))) (L_g 4 kr (L_nil ?_)))))))
 refine W_cond false kr (fun e => by cases e) (fun _ => ?_)
 refine W_sg 1 kr (L_i ((i : Int)) (0) (.bool false) rfl rfl kr kr rfl (congrArg Value.bool (decide_eq_false (by omega))) (L_g 5 kr (L_want kr (L_ld _ rfl rfl kr ((c0.ext T495).ld (o := 10) kr rfl) (L_want kr (L_i ((i : Int)) (((W.rq p no).parts : Int)) (.bool false) rfl rfl kr kr rfl (congrArg Value.bool (decide_eq_false (by omega))) (L_g 2 kr (L_nil ?_))))))))
 refine W_cond false kr (fun e => by cases e) (fun _ => ?_)
 refine W_skip (W_sg 3 kr (L_nil (W_ret ?_)))
 repeat first | with_reducible refine then_ret ?_ | with_reducible refine blk_ret ?_
 refine done_of (v := .tuple ⟨[ptr (G.B (.rq p no)), nv 0]⟩) (.inl rfl) kr ?_
 exact ⟨rfl, T495⟩
theorem parted_f {W : Wd} {G : Gh} {h : AH} {p no i : Nat} (R : Rep W G h) (hp : p < W.n) (hm : no ∈ (W.pr p).reqs) (hs : (W.rq p no).send = false) (hpt : 0 < (W.rq p no).parts) (hi : i < (W.rq p no).parts) :
  Arm.Calls Try.prog 40 [ptr (G.B .wd), nv (p : Int), nv (no : Int), nv (i : Int), .bool false] h (fun r => r.1 = .tuple ⟨[ptr (G.B (.rq p no)), nv 0]⟩ ∧ Sm Nix h r.2) := by
 have hr := (R.rel.pr p hp).rqp no hm
 obtain ⟨dv0, hd0, c0⟩ := R.rqL hp hr
 replace c0 : Arm.Cl h (G.B (.rq p no)) [nk (W.rq p no).no, nv (W.rq p no).peer, nv (W.rq p no).ctx, nv (W.rq p no).tag, nv (W.rq p no).room, .bool (W.rq p no).send, .bool (W.rq p no).sync, .bool (W.rq p no).pers, .bool (W.rq p no).act, .bool (W.rq p no).done, nk (W.rq p no).parts, nk (W.rq p no).size, dv0, G.S (.pcs p no), nk (W.rq p no).gone, G.S (.snt p no), .bool (W.rq p no).clr, nv (W.rq p no).st.src, nv (W.rq p no).st.tag, nv (W.rq p no).st.size, nv (W.rq p no).st.err] := c0
 refine Calls_W 51 Try.f40 ?_
 have T0 : Sm Nix h h := .refl
 refine W_sg 2 kr (L_nil (W_sg 3 kr (L_c rfl rfl kr (req_ok (R.ext T0) hp hm) ?_)))
 rintro v496 h496 ⟨e496, t496⟩
 try dsimp only at e496
 try dsimp only at t496
 subst e496
 have T496 := T0.ext t496
 have N496 := T496.nx
 have M496 := t496.nx
 refine L_g 5 kr (L_nil (W_seq (W_block (W_sg 3 kr (L_nil ?_)))))
 refine W_cond false kr (fun e => by cases e) (fun _ => ?_)
 refine W_sg 3 kr (L_ld _ rfl rfl kr ((c0.ext T496).ld (o := 10) kr rfl) (L_i (((W.rq p no).parts : Int)) (0) (.bool false) rfl rfl kr kr rfl (congrArg Value.bool (decide_eq_false (by omega))) (L_g 4 kr (L_want kr (L_ld _ rfl rfl kr (((c0.ext T496).ld (o := 5) kr (by rw [← hs]; rfl) : aLoad Try.prog 4 ⟨G.B (.rq p no), 5, none⟩ h496 = some (.bool false))) (L_g 4 kr (L_nil ?_)))))))
 refine W_cond false kr (fun e => by cases e) (fun _ => ?_)
 refine W_sg 1 kr (L_i ((i : Int)) (0) (.bool false) rfl rfl kr kr rfl (congrArg Value.bool (decide_eq_false (by omega))) (L_g 5 kr (L_want kr (L_ld _ rfl rfl kr ((c0.ext T496).ld (o := 10) kr rfl) (L_want kr (L_i ((i : Int)) (((W.rq p no).parts : Int)) (.bool false) rfl rfl kr kr rfl (congrArg Value.bool (decide_eq_false (by omega))) (L_g 2 kr (L_nil ?_))))))))
 refine W_cond false kr (fun e => by cases e) (fun _ => ?_)
 refine W_skip (W_sg 3 kr (L_nil (W_ret ?_)))
 repeat first | with_reducible refine then_ret ?_ | with_reducible refine blk_ret ?_
 refine done_of (v := .tuple ⟨[ptr (G.B (.rq p no)), nv 0]⟩) (.inl rfl) kr ?_
 exact ⟨rfl, T496⟩
theorem ready_have {W : Wd} {G : Gh} {h : AH} {p no i : Nat} {d0 : By} {s : Value} (R : Rep W G h) (hp : p < W.n) (hm : no ∈ (W.pr p).reqs) (hs : (W.rq p no).send = true) (hi : i < (W.rq p no).parts) (hx : (W.rq p no).pcs[i]? = some (some d0)) :
  Arm.Calls Try.prog 20 [ptr (G.B .wd), nv (p : Int), nv (no : Int), nv (i : Int), s] h (fun r => r.1 = nv 5 ∧ Sm Nix h r.2) := by
 have hr := (R.rel.pr p hp).rqp no hm
 obtain ⟨dv0, hd0, c0⟩ := R.rqL hp hr
 replace c0 : Arm.Cl h (G.B (.rq p no)) [nk (W.rq p no).no, nv (W.rq p no).peer, nv (W.rq p no).ctx, nv (W.rq p no).tag, nv (W.rq p no).room, .bool (W.rq p no).send, .bool (W.rq p no).sync, .bool (W.rq p no).pers, .bool (W.rq p no).act, .bool (W.rq p no).done, nk (W.rq p no).parts, nk (W.rq p no).size, dv0, G.S (.pcs p no), nk (W.rq p no).gone, G.S (.snt p no), .bool (W.rq p no).clr, nv (W.rq p no).st.src, nv (W.rq p no).st.tag, nv (W.rq p no).st.size, nv (W.rq p no).st.err] := c0
 refine Calls_W 62 Try.f20 ?_
 have T0 : Sm Nix h h := .refl
 refine W_sg 1 kr (L_nil (W_sg 4 kr (L_c rfl rfl kr (parted_t (R.ext T0) hp hm hs (by omega) hi) ?_)))
 rintro v488 h488 ⟨e488, t488⟩
 try dsimp only at e488
 try dsimp only at t488
 subst e488
 have T488 := T0.ext t488
 have N488 := T488.nx
 have M488 := t488.nx
 refine L_g 5 kr (L_nil (W_seq (W_block (W_sg 3 kr (L_nil ?_)))))
 refine W_cond false kr (fun e => by cases e) (fun _ => ?_)
 refine W_sg 3 kr (L_ld _ rfl rfl kr ((c0.ext T488).ld (o := 13) kr rfl) (L_g 1 kr ?_))
 obtain ⟨pa9, v9, ix9, ld9, hv9⟩ := Rep.piece (p := p) (no := no) (k := i) (R.ext T488) hp hr hx
 obtain ⟨ad9, nd9, cd9, rfl⟩ := hv9.2
 refine L_ix _ rfl rfl kr kr (ix9) (L_ld _ rfl rfl kr (ld9) (L_p (.bool true) rfl (ev_bin (o := _) rfl kr kr (neq_some (a := ad9) (n := nd9) (c := cd9))) (L_g 1 kr (L_nil ?_))))
 refine W_cond true kr (fun _ => ?_) (fun e => by cases e)
 refine W_sg 1 kr (L_nil (W_ret ?_))
 repeat first | with_reducible refine then_ret ?_ | with_reducible refine blk_ret ?_
 refine done_of (v := nv 5) (.inl rfl) kr ?_
 exact ⟨rfl, T488⟩
set_option maxHeartbeats 1000000 in
theorem ready_ok {W : Wd} {G : Gh} {h : AH} {p no i : Nat} {d : By} {s : Value} {W1 W2 : Wd} (R : Rep W G h) (hp : p < W.n) (hm : no ∈ (W.pr p).reqs) (hs : (W.rq p no).send = true) (hi : i < (W.rq p no).parts) (hx : (W.rq p no).pcs[i]? = some none) (hlen : d.length = (W.rq p no).size) (hd9 : d.length < big) (H : Rb h s (d.map bv)) (hs9 : ∀ b, vb s = some b → ¬ G.mut b) (he1 : W.call p = some W1) (hil1 : i < (W1.rq p no).pcs.length) (he2 : W1.rdy p no i d = some W2) :
  Arm.Calls Try.prog 20 [ptr (G.B .wd), nv (p : Int), nv (no : Int), nv (i : Int), s] h (fun r => r.1 = nv 0 ∧ Nxt W2 G h r.2) := by
 have hp1 : p < W1.n := by rw [Wd.call_n he1]; exact hp
 have hd9 : d.length < 1000000000 := hd9
 have hr := (R.rel.pr p hp).rqp no hm
 obtain ⟨dv0, hd0, c0⟩ := R.rqL hp hr
 replace c0 : Arm.Cl h (G.B (.rq p no)) [nk (W.rq p no).no, nv (W.rq p no).peer, nv (W.rq p no).ctx, nv (W.rq p no).tag, nv (W.rq p no).room, .bool (W.rq p no).send, .bool (W.rq p no).sync, .bool (W.rq p no).pers, .bool (W.rq p no).act, .bool (W.rq p no).done, nk (W.rq p no).parts, nk (W.rq p no).size, dv0, G.S (.pcs p no), nk (W.rq p no).gone, G.S (.snt p no), .bool (W.rq p no).clr, nv (W.rq p no).st.src, nv (W.rq p no).st.tag, nv (W.rq p no).st.size, nv (W.rq p no).st.err] := c0
 refine Calls_W 62 Try.f20 ?_
 have T0 : Sm Nix h h := .refl
 refine W_sg 1 kr (L_nil (W_sg 4 kr (L_c rfl rfl kr (parted_t (R.ext T0) hp hm hs (by omega) hi) ?_)))
 rintro v489 h489 ⟨e489, t489⟩
 try dsimp only at e489
 try dsimp only at t489
 subst e489
 have T489 := T0.ext t489
 have N489 := T489.nx
 have M489 := t489.nx
 refine L_g 5 kr (L_nil (W_seq (W_block (W_sg 3 kr (L_nil ?_)))))
 refine W_cond false kr (fun e => by cases e) (fun _ => ?_)
 refine W_sg 3 kr (L_ld _ rfl rfl kr ((c0.ext T489).ld (o := 13) kr rfl) (L_g 1 kr ?_))
 obtain ⟨pa9, v9, ix9, ld9, hv9⟩ := Rep.piece (p := p) (no := no) (k := i) (R.ext T489) hp hr hx
 subst hv9
 refine L_ix _ rfl rfl kr kr (ix9) (L_ld _ rfl rfl kr (ld9) (L_p (.bool false) rfl (ev_bin (o := _) rfl kr kr neq_nilS) (L_g 1 kr (L_nil ?_))))
 refine W_cond false kr (fun e => by cases e) (fun _ => ?_)
 refine W_sg 1 kr (L_ln _ rfl rfl kr (H.lenA (T := 23) (el := 5) kr _) (L_g 3 kr (L_ld _ rfl rfl kr ((c0.ext T489).ld (o := 11) kr rfl) (L_i (((List.map bv d).length : Int)) (((W.rq p no).size : Int)) (.bool false) rfl rfl kr kr rfl (by rw [List.length_map, hlen]; simp) (L_g 1 kr (L_nil ?_))))))
 refine W_cond false kr (fun e => by cases e) (fun _ => ?_)
 refine W_skip (W_sg 2 kr (L_c rfl rfl kr (call_ok (R.ext T489) hp he1) ?_))
 rintro v490 h490 ⟨e490, N490⟩
 dsimp only at e490 N490
 subst e490
 obtain ⟨S490, C490, ro490, R490, Y490⟩ := N490
 have X490 := ((Gx.refl).trans (Gx.of T489)).trans Y490
 have hr_490 := (Y490.keep _ hr).1
 have T490 : Sm (Ow h (⟨Gh.B G, S490, C490, ro490⟩ : Gh)) h490 h490 := .refl
 obtain ⟨dvz, hdz, cz⟩ := R490.rqL (p := p) hp1 hr_490
 replace cz : Arm.Cl h490 (G.B (.rq p no)) [nk (W1.rq p no).no, nv (W1.rq p no).peer, nv (W1.rq p no).ctx, nv (W1.rq p no).tag, nv (W1.rq p no).room, .bool (W1.rq p no).send, .bool (W1.rq p no).sync, .bool (W1.rq p no).pers, .bool (W1.rq p no).act, .bool (W1.rq p no).done, nk (W1.rq p no).parts, nk (W1.rq p no).size, dvz, (⟨G.B, S490, C490, ro490⟩ : Gh).S (.pcs p no), nk (W1.rq p no).gone, (⟨G.B, S490, C490, ro490⟩ : Gh).S (.snt p no), .bool (W1.rq p no).clr, nv (W1.rq p no).st.src, nv (W1.rq p no).st.tag, nv (W1.rq p no).st.size, nv (W1.rq p no).st.err] := cz
 obtain ⟨da, dc, rfl⟩ := hdz.1.form
 refine L_nil (W_seq (W_drawn kr (D_e (e := 7) (l := [0,1,2,3,4,5,6]) (s' := [0,1,2,3,4]) kr kr rfl kr Rk_nil (NS_b 3 kr (NS_ld _ rfl rfl kr kr kr ((cz.sm T490 (fun hx => hx.2.1 ⟨.rq p no, hr_490, rfl⟩)).ld (o := 13) kr rfl) (NS_b 1 kr ?_))))))
 have m491 : ¬ (Gh.mut (⟨Gh.B G, S490, C490, ro490⟩ : Gh)) h490.next ∧ ¬ (Gh.ro (⟨Gh.B G, S490, C490, ro490⟩ : Gh)) h490.next := ⟨(R490.ow T490).op.new (Nat.le_refl _), (R490.ow T490).op.newr (Nat.le_refl _)⟩
 refine NS_nwc [] (.sl 0 0) rfl kr rfl rfl kr (Rk_1 rfl rfl (Rk_1 rfl rfl (Rk_1 rfl rfl (Rk_ld _ rfl rfl rfl kr ((cz.sm (T490.ext (.push h490 _)) (fun hx => hx.2.1 ⟨.rq p no, hr_490, rfl⟩)).ld (o := 13) kr rfl) kr (Rk_1 rfl rfl (Rk_1 rfl rfl Rk_nil)))))) fun h491 c491 t491 n491 => ?_
 have T491 : Sm (Ow h (⟨Gh.B G, S490, C490, ro490⟩ : Gh)) h490 h491 := T490.ext t491
 have N491 := T491.nx
 refine NS_b 1 kr (NS_nil ?_)
 have H492 := H.sm (((X490).ow T491)).sm hs9
 obtain ⟨v492, h492, e492, r492, k492, t492, f492, s492, n492⟩ := app_bytes (P := Try.prog) (sT := 23) (xT := 23) (el := 5) (by_ := 1) (z := .int .u8 0) (a := ⟨h490.next, 0, none⟩) kr kr kr kr kr rfl kr H492 (bv_one d) (by rw [List.length_map]; omega) c491.lt
 obtain ⟨ad492, nd492, cd492, rfl⟩ := s492
 obtain ⟨R492, X492⟩ := ((R490.ow T490)).more (Q := fun b => vb (Value.slice (some ad492) nd492 cd492) = some b) (t491.ext t492) (fun b hb => (f492 b hb).elim (fun e => Nat.le_of_eq e.symm) (fun e => by omega)) (fun b hb => n492 b hb)
 have X492x := (((X490).ow T490)).trans X492
 have hdv : Dr h492 (Gh.ro (Gh.more (⟨Gh.B G, S490, C490, ro490⟩ : Gh) (fun b => vb (Value.slice (some ad492) nd492 cd492) = some b))) (Value.slice (some ad492) nd492 cd492) d := ⟨r492, fun b hb => .inr hb⟩
 have hrM : Gh.C (Gh.more (⟨Gh.B G, S490, C490, ro490⟩ : Gh) (fun b => vb (Value.slice (some ad492) nd492 cd492) = some b)) (.rq p no) ≠ .no := hr_490
 have cz2 := (cz.sm T491 (fun hx => hx.2.1 ⟨.rq p no, hr_490, rfl⟩)).ext t492
 refine L_bi (Value.slice (some ad492) nd492 cd492) h492 rfl rfl kr (vs := [Value.slice (some ⟨h490.next, 0, none⟩) 0 0, s]) kr (bi_append e492) ?_
 replace c491 := c491
 have T492 : Sm (Ow h (Gh.more (⟨Gh.B G, S490, C490, ro490⟩ : Gh) (fun b => vb (Value.slice (some ad492) nd492 cd492) = some b))) h492 h492 := .refl
 refine L_nil ⟨rfl, ?_⟩
 refine D_e (e := 9) (l := [8]) (s' := []) kr kr rfl kr (Rk_1 rfl rfl (Rk_1 rfl rfl (Rk_1 rfl rfl (Rk_ld _ rfl rfl rfl kr ((cz2.sm T492 (fun hx => hx.2.1 ⟨.rq p no, hrM, rfl⟩)).ld (o := 13) kr rfl) kr (Rk_1 rfl rfl Rk_nil))))) ?_
 obtain ⟨cs0, A0, L0, hC0⟩ := ((R492.ow T492)).pcs (p := p) (no := no) hp1 hrM
 obtain ⟨pa, xa, i1, i2, i3, i4, i5⟩ := (A0).elem (P := Try.prog) (T := 65) (el := 23) kr kr kr hil1 .i64
 refine NS_ix _ rfl rfl kr kr kr kr (i1) (NS_nil ?_)
 obtain ⟨h493, e493, w493, t493, n493⟩ := i5 (Value.slice (some ad492) nd492 cd492) rfl rfl
 have N493 : Nxt (W1.setRq p no (Wd.pget (W1.rq p no) i d)) (Gh.more (⟨Gh.B G, S490, C490, ro490⟩ : Gh) (fun b => vb (Value.slice (some ad492) nd492 cd492) = some b)) h492 h493 := by
  have hDr := ((R492.ow T492)).op.dr (t493.mono fun c hc => ⟨.pcs p no, hC0, vb_vbx hc⟩)
  have := ((R492.ow T492)).setPcs (p := p) (no := no) hp1 hrM (l := (W1.rq p no).pcs.set i (some d)) (cs := cs0.set i (Value.slice (some ad492) nd492 cd492)) ((L0.mono (fun _ _ z => z.mono hDr)).set1 ⟨_, rfl, hDr _ _ (hdv.ext3 T492), _, _, _, rfl⟩) (by rw [List.length_set]; exact w493) t493
  exact this
 refine L_st _ rfl rfl rfl kr kr (e493) ?_
 obtain ⟨S493, C493, ro493, R493, Y493⟩ := N493
 have X493 := ((X492x).ow T492).trans Y493
 have hr_493 := (Y493.keep _ hrM).1
 have T493 : Sm (Ow h (⟨Gh.B (Gh.more (⟨Gh.B G, S490, C490, ro490⟩ : Gh) (fun b => vb (Value.slice (some ad492) nd492 cd492) = some b)), S493, C493, ro493⟩ : Gh)) h493 h493 := .refl
 obtain ⟨dvy, hdy, cy⟩ := R493.rqL (p := p) (no := no) hp1 hr_493
 rw [Wd.setRq_at] at hdy cy
 replace cy : Arm.Cl h493 (Gh.B (Gh.more (⟨Gh.B G, S490, C490, ro490⟩ : Gh) (fun b => vb (Value.slice (some ad492) nd492 cd492) = some b)) (.rq p no)) [nk (W1.rq p no).no, nv (W1.rq p no).peer, nv (W1.rq p no).ctx, nv (W1.rq p no).tag, nv (W1.rq p no).room, .bool (W1.rq p no).send, .bool (W1.rq p no).sync, .bool (W1.rq p no).pers, .bool (W1.rq p no).act, .bool (W1.rq p no).done, nk (W1.rq p no).parts, nk (W1.rq p no).size, dvy, (⟨Gh.B (Gh.more (⟨Gh.B G, S490, C490, ro490⟩ : Gh) (fun b => vb (Value.slice (some ad492) nd492 cd492) = some b)), S493, C493, ro493⟩ : Gh).S (.pcs p no), nk (W1.rq p no).gone, (⟨Gh.B (Gh.more (⟨Gh.B G, S490, C490, ro490⟩ : Gh) (fun b => vb (Value.slice (some ad492) nd492 cd492) = some b)), S493, C493, ro493⟩ : Gh).S (.snt p no), .bool (W1.rq p no).clr, nv (W1.rq p no).st.src, nv (W1.rq p no).st.tag, nv (W1.rq p no).st.size, nv (W1.rq p no).st.err] := cy
 refine L_nil ⟨rfl, ?_⟩
 refine D_l (l := []) kr kr Rk_nil (NS_nil (W_seq (W_seq ?_)))
 by_cases hclr : (W1.rq p no).clr = true
 ·
  rw [Wd.rdy, if_pos hclr] at he2
  refine W_rg 3 kr (L_ld _ rfl rfl kr (((cy.sm T493 (fun hx => hx.2.1 ⟨.rq p no, hr_493, rfl⟩)).ld (o := 16) kr (by rw [← hclr]; rfl) : aLoad Try.prog 4 ⟨G.B (.rq p no), 16, none⟩ h493 = some (.bool true))) (L_nil ?_))
  refine W_cond true kr (fun _ => ?_) (fun e => by cases e)
  refine W_rg 3 kr (L_c rfl rfl kr (sparts_ok (R493.ow T493) hp1 hr_493 he2) ?_)
  rintro v494 h494 N494
  dsimp only at N494
  obtain ⟨S494, C494, ro494, R494, Y494⟩ := N494
  have X494 := ((X493).ow T493).trans Y494
  have hr_494 := (Y494.keep _ hr_493).1
  have T494 : Sm (Ow h (⟨Gh.B (⟨Gh.B (Gh.more (⟨Gh.B G, S490, C490, ro490⟩ : Gh) (fun b => vb (Value.slice (some ad492) nd492 cd492) = some b)), S493, C493, ro493⟩ : Gh), S494, C494, ro494⟩ : Gh)) h494 h494 := .refl
  refine L_nil (W_sg 1 kr (L_nil (W_ret ?_)))
  repeat first | with_reducible refine then_ret ?_ | with_reducible refine blk_ret ?_
  refine done_of (v := nv 0) (.inl rfl) kr ?_
  exact ⟨rfl, _, _, _, (R494.ow T494), ((X494).ow T494)⟩
 ·
  rw [Wd.rdy, if_neg hclr] at he2
  obtain rfl := Option.some.inj he2
  have hclr : (W1.rq p no).clr = false := Bool.eq_false_iff.2 hclr
  refine W_rg 3 kr (L_ld _ rfl rfl kr (((cy.sm T493 (fun hx => hx.2.1 ⟨.rq p no, hr_493, rfl⟩)).ld (o := 16) kr (by rw [← hclr]; rfl) : aLoad Try.prog 4 ⟨G.B (.rq p no), 16, none⟩ h493 = some (.bool false))) (L_nil ?_))
  refine W_cond false kr (fun e => by cases e) (fun _ => ?_)
  refine W_skip (W_sg 1 kr (L_nil (W_ret ?_)))
  repeat first | with_reducible refine then_ret ?_ | with_reducible refine blk_ret ?_
  refine done_of (v := nv 0) (.inl rfl) kr ?_
  exact ⟨rfl, _, _, _, (R493.ow T493), ((X493).ow T493)⟩
set_option maxHeartbeats 1000000 in
theorem arr_some {W : Wd} {G : Gh} {h : AH} {p no i : Nat} {d : By} {W1 : Wd} (R : Rep W G h) (hp : p < W.n) (hm : no ∈ (W.pr p).reqs) (hs : (W.rq p no).send = false) (hi : i < (W.rq p no).parts) (he1 : W.call p = some W1) (hx : (W1.rq p no).pcs[i]? = some (some d)) (hdl : d.length < big) :
  Arm.Calls Try.prog 21 [ptr (G.B .wd), nv (p : Int), nv (no : Int), nv (i : Int)] h (fun r => ∃ v, r.1 = .tuple ⟨[v, .bool true, nv 0]⟩ ∧ Rb r.2 v ((d : By).map bv) ∧ (∀ b, vb v = some b → h.next ≤ b) ∧ Nxt W1 G h r.2) := by
 have hp1 : p < W1.n := by rw [Wd.call_n he1]; exact hp
 have hr := (R.rel.pr p hp).rqp no hm
 obtain ⟨dv0, hd0, c0⟩ := R.rqL hp hr
 replace c0 : Arm.Cl h (G.B (.rq p no)) [nk (W.rq p no).no, nv (W.rq p no).peer, nv (W.rq p no).ctx, nv (W.rq p no).tag, nv (W.rq p no).room, .bool (W.rq p no).send, .bool (W.rq p no).sync, .bool (W.rq p no).pers, .bool (W.rq p no).act, .bool (W.rq p no).done, nk (W.rq p no).parts, nk (W.rq p no).size, dv0, G.S (.pcs p no), nk (W.rq p no).gone, G.S (.snt p no), .bool (W.rq p no).clr, nv (W.rq p no).st.src, nv (W.rq p no).st.tag, nv (W.rq p no).st.size, nv (W.rq p no).st.err] := c0
 refine Calls_W 43 Try.f21 ?_
 have T0 : Sm Nix h h := .refl
 refine W_sg 3 kr (L_nil (W_sg 4 kr (L_c rfl rfl kr (parted_f (R.ext T0) hp hm hs (by omega) hi) ?_)))
 rintro v497 h497 ⟨e497, t497⟩
 try dsimp only at e497
 try dsimp only at t497
 subst e497
 have T497 := T0.ext t497
 have N497 := T497.nx
 have M497 := t497.nx
 refine L_g 5 kr (L_nil (W_seq (W_sg 2 kr (L_nil ?_))))
 refine W_cond false kr (fun e => by cases e) (fun _ => ?_)
 refine W_skip (W_sg 2 kr (L_c rfl rfl kr (call_ok (R.ext T497) hp he1) ?_))
 rintro v498 h498 ⟨e498, N498⟩
 dsimp only at e498 N498
 subst e498
 obtain ⟨S498, C498, ro498, R498, Y498⟩ := N498
 have X498 := ((Gx.refl).trans (Gx.of T497)).trans Y498
 have hr_498 := (Y498.keep _ hr).1
 have T498 : Sm (Ow h (⟨Gh.B G, S498, C498, ro498⟩ : Gh)) h498 h498 := .refl
 obtain ⟨dvz, hdz, cz⟩ := R498.rqL (p := p) hp1 hr_498
 replace cz : Arm.Cl h498 (G.B (.rq p no)) [nk (W1.rq p no).no, nv (W1.rq p no).peer, nv (W1.rq p no).ctx, nv (W1.rq p no).tag, nv (W1.rq p no).room, .bool (W1.rq p no).send, .bool (W1.rq p no).sync, .bool (W1.rq p no).pers, .bool (W1.rq p no).act, .bool (W1.rq p no).done, nk (W1.rq p no).parts, nk (W1.rq p no).size, dvz, (⟨G.B, S498, C498, ro498⟩ : Gh).S (.pcs p no), nk (W1.rq p no).gone, (⟨G.B, S498, C498, ro498⟩ : Gh).S (.snt p no), .bool (W1.rq p no).clr, nv (W1.rq p no).st.src, nv (W1.rq p no).st.tag, nv (W1.rq p no).st.size, nv (W1.rq p no).st.err] := cz
 obtain ⟨da, dc, rfl⟩ := hdz.1.form
 obtain ⟨pa9, v9, ix9, ld9, hv9⟩ := pieceX (p := p) (no := no) (k := i) R498 hp1 hr_498 hx
 obtain ⟨hd9, ad9, nd9, cd9, rfl⟩ := hv9
 refine L_nil (W_seq (W_drawn kr (D_e (e := 7) (l := [0,1,2,3,4,5,6,8,9,10,11,12,13,14,15]) (s' := [8,9,10,11,12,13,14,15]) kr kr rfl kr Rk_nil (NS_b 3 kr (NS_ld _ rfl rfl kr kr kr ((cz.sm T498 (fun hx => hx.2.1 ⟨.rq p no, hr_498, rfl⟩)).ld (o := 13) kr rfl) (NS_b 1 kr (NS_ix _ rfl rfl kr kr kr kr (ix9) (NS_ld _ rfl rfl kr kr kr ((ld9 _ _ T498)) (NS_b 3 kr (NS_ld _ rfl rfl kr kr kr ((cz.sm T498 (fun hx => hx.2.1 ⟨.rq p no, hr_498, rfl⟩)).ld (o := 13) kr rfl) (NS_b 1 kr ?_)))))))))))
 refine NS_ix _ rfl rfl kr kr kr kr (ix9) (NS_ld _ rfl rfl kr kr kr ((ld9 _ _ T498)) (NS_v (.bool true) rfl kr rfl kr (ev_bin (o := _) rfl kr kr (neq_some (a := ad9) (n := nd9) (c := cd9))) (NS_nil (L_c rfl rfl kr (clone_by (d := (d.map bv)) (hd9.ext3 T498).1 (bv_one _) (by rw [List.length_map]; exact hdl)) ?_))))
 rintro v499 h499 ⟨r499, k499, t499, f499, s499⟩
 dsimp only at r499 k499 t499 f499 s499
 have hlo9 : ∀ b, vb v499 = some b → h.next ≤ b := fun b hb => Nat.le_trans (((X498).ow T498)).sm.nx (f499 b hb).1
 have T499 : Sm (Ow h (⟨Gh.B G, S498, C498, ro498⟩ : Gh)) h498 h499 := T498.ext t499
 have N499 := T499.nx
 refine L_nil ⟨rfl, ?_⟩
 refine D_l (l := [16,17,18]) kr kr (Rk_1 rfl rfl (Rk_1 rfl rfl (Rk_1 rfl rfl (Rk_ld _ rfl rfl rfl kr ((cz.sm T499 (fun hx => hx.2.1 ⟨.rq p no, hr_498, rfl⟩)).ld (o := 13) kr rfl) kr (Rk_1 rfl rfl (Rk_1 rfl rfl (Rk_ld _ rfl rfl rfl kr ((ld9 _ _ T499)) kr (Rk_v (v := (.bool true)) rfl rfl (ev_bin (o := _) rfl kr kr (neq_some (a := ad9) (n := nd9) (c := cd9))) kr Rk_nil)))))))) (NS_b 3 kr (NS_nil (W_ret ?_)))
 repeat first | with_reducible refine then_ret ?_ | with_reducible refine blk_ret ?_
 refine done_of (v := .tuple ⟨[v499, .bool true, nv 0]⟩) (.inl rfl) kr ?_
 exact ⟨v499, rfl, r499.ext (.refl), hlo9, _, _, _, (R498.ow T499), ((X498).ow T499)⟩
set_option maxHeartbeats 1000000 in
theorem arr_none {W : Wd} {G : Gh} {h : AH} {p no i : Nat} {W1 : Wd} (R : Rep W G h) (hp : p < W.n) (hm : no ∈ (W.pr p).reqs) (hs : (W.rq p no).send = false) (hi : i < (W.rq p no).parts) (he1 : W.call p = some W1) (hx : (W1.rq p no).pcs[i]? = some none) :
  Arm.Calls Try.prog 21 [ptr (G.B .wd), nv (p : Int), nv (no : Int), nv (i : Int)] h (fun r => ∃ v, r.1 = .tuple ⟨[v, .bool false, nv 0]⟩ ∧ Rb r.2 v (([] : By).map bv) ∧ (∀ b, vb v = some b → h.next ≤ b) ∧ Nxt W1 G h r.2) := by
 have hp1 : p < W1.n := by rw [Wd.call_n he1]; exact hp
 have hr := (R.rel.pr p hp).rqp no hm
 obtain ⟨dv0, hd0, c0⟩ := R.rqL hp hr
 replace c0 : Arm.Cl h (G.B (.rq p no)) [nk (W.rq p no).no, nv (W.rq p no).peer, nv (W.rq p no).ctx, nv (W.rq p no).tag, nv (W.rq p no).room, .bool (W.rq p no).send, .bool (W.rq p no).sync, .bool (W.rq p no).pers, .bool (W.rq p no).act, .bool (W.rq p no).done, nk (W.rq p no).parts, nk (W.rq p no).size, dv0, G.S (.pcs p no), nk (W.rq p no).gone, G.S (.snt p no), .bool (W.rq p no).clr, nv (W.rq p no).st.src, nv (W.rq p no).st.tag, nv (W.rq p no).st.size, nv (W.rq p no).st.err] := c0
 refine Calls_W 43 Try.f21 ?_
 have T0 : Sm Nix h h := .refl
 refine W_sg 3 kr (L_nil (W_sg 4 kr (L_c rfl rfl kr (parted_f (R.ext T0) hp hm hs (by omega) hi) ?_)))
 rintro v500 h500 ⟨e500, t500⟩
 try dsimp only at e500
 try dsimp only at t500
 subst e500
 have T500 := T0.ext t500
 have N500 := T500.nx
 have M500 := t500.nx
 refine L_g 5 kr (L_nil (W_seq (W_sg 2 kr (L_nil ?_))))
 refine W_cond false kr (fun e => by cases e) (fun _ => ?_)
 refine W_skip (W_sg 2 kr (L_c rfl rfl kr (call_ok (R.ext T500) hp he1) ?_))
 rintro v501 h501 ⟨e501, N501⟩
 dsimp only at e501 N501
 subst e501
 obtain ⟨S501, C501, ro501, R501, Y501⟩ := N501
 have X501 := ((Gx.refl).trans (Gx.of T500)).trans Y501
 have hr_501 := (Y501.keep _ hr).1
 have T501 : Sm (Ow h (⟨Gh.B G, S501, C501, ro501⟩ : Gh)) h501 h501 := .refl
 obtain ⟨dvz, hdz, cz⟩ := R501.rqL (p := p) hp1 hr_501
 replace cz : Arm.Cl h501 (G.B (.rq p no)) [nk (W1.rq p no).no, nv (W1.rq p no).peer, nv (W1.rq p no).ctx, nv (W1.rq p no).tag, nv (W1.rq p no).room, .bool (W1.rq p no).send, .bool (W1.rq p no).sync, .bool (W1.rq p no).pers, .bool (W1.rq p no).act, .bool (W1.rq p no).done, nk (W1.rq p no).parts, nk (W1.rq p no).size, dvz, (⟨G.B, S501, C501, ro501⟩ : Gh).S (.pcs p no), nk (W1.rq p no).gone, (⟨G.B, S501, C501, ro501⟩ : Gh).S (.snt p no), .bool (W1.rq p no).clr, nv (W1.rq p no).st.src, nv (W1.rq p no).st.tag, nv (W1.rq p no).st.size, nv (W1.rq p no).st.err] := cz
 obtain ⟨da, dc, rfl⟩ := hdz.1.form
 obtain ⟨pa9, v9, ix9, ld9, hv9⟩ := pieceX (p := p) (no := no) (k := i) R501 hp1 hr_501 hx
 subst hv9
 refine L_nil (W_seq (W_drawn kr (D_e (e := 7) (l := [0,1,2,3,4,5,6,8,9,10,11,12,13,14,15]) (s' := [8,9,10,11,12,13,14,15]) kr kr rfl kr Rk_nil (NS_b 3 kr (NS_ld _ rfl rfl kr kr kr ((cz.sm T501 (fun hx => hx.2.1 ⟨.rq p no, hr_501, rfl⟩)).ld (o := 13) kr rfl) (NS_b 1 kr (NS_ix _ rfl rfl kr kr kr kr (ix9) (NS_ld _ rfl rfl kr kr kr ((ld9 _ _ T501)) (NS_b 3 kr (NS_ld _ rfl rfl kr kr kr ((cz.sm T501 (fun hx => hx.2.1 ⟨.rq p no, hr_501, rfl⟩)).ld (o := 13) kr rfl) (NS_b 1 kr ?_)))))))))))
 refine NS_ix _ rfl rfl kr kr kr kr (ix9) (NS_ld _ rfl rfl kr kr kr ((ld9 _ _ T501)) (NS_v (.bool false) rfl kr rfl kr (ev_bin (o := _) rfl kr kr neq_nilS) (NS_nil (L_c rfl rfl kr (clone_by (d := (([] : By).map bv)) Rb.nil (fun _ hx => by cases hx) (by show 0 < big; decide)) ?_))))
 rintro v502 h502 ⟨r502, k502, t502, f502, s502⟩
 dsimp only at r502 k502 t502 f502 s502
 have hlo9 : ∀ b, vb v502 = some b → h.next ≤ b := fun b hb => Nat.le_trans (((X501).ow T501)).sm.nx (f502 b hb).1
 have T502 : Sm (Ow h (⟨Gh.B G, S501, C501, ro501⟩ : Gh)) h501 h502 := T501.ext t502
 have N502 := T502.nx
 refine L_nil ⟨rfl, ?_⟩
 refine D_l (l := [16,17,18]) kr kr (Rk_1 rfl rfl (Rk_1 rfl rfl (Rk_1 rfl rfl (Rk_ld _ rfl rfl rfl kr ((cz.sm T502 (fun hx => hx.2.1 ⟨.rq p no, hr_501, rfl⟩)).ld (o := 13) kr rfl) kr (Rk_1 rfl rfl (Rk_1 rfl rfl (Rk_ld _ rfl rfl rfl kr ((ld9 _ _ T502)) kr (Rk_v (v := (.bool false)) rfl rfl (ev_bin (o := _) rfl kr kr neq_nilS) kr Rk_nil)))))))) (NS_b 3 kr (NS_nil (W_ret ?_)))
 repeat first | with_reducible refine then_ret ?_ | with_reducible refine blk_ret ?_
 refine done_of (v := .tuple ⟨[v502, .bool false, nv 0]⟩) (.inl rfl) kr ?_
 exact ⟨v502, rfl, r502.ext (.refl), hlo9, _, _, _, (R501.ow T502), ((X501).ow T502)⟩
end
end Go.Proofs.Ytmehemeoaplepaa
