/- A part of the walks of profiles. -/
import Derived.Test.YtjhbbdfbngbjcaaGreatDoorZu
namespace Go.Proofs.YtjhbbdfbngbjcaaGreatDoor
noncomputable section
open Go Go.X Go.Arm
theorem find_ok {h : AH} {v : Value} {l : List TE} (k q n : Int) (G : Sd h 6 v l.length (l.flatMap ev6)) (hN : l.length < 1000000000) : Arm.Calls Tryz.prog 51 [v, nv k, nv q, nv n] h (fun r => r.1 = nv (fndZ l k q n) ∧ Sm Nix h r.2) := by
 refine Calls_W 46 Tryz.f51 ?_
 have T0 : Sm Nix h h := .refl
 refine W_sg 1 kr (L_nil (W_seq (W_sg 1 kr (L_nil (W_block ?_)))))
 refine W_loop (fun mm fr hh => ∃ (i : Nat), (i ≤ l.length) ∧ (fnd (l.take i) k q n = none) ∧ mm = l.length - i ∧ fr 0 = v ∧ fr 1 = nv k ∧ fr 2 = nv q ∧ fr 3 = nv n ∧ fr 9 = nv (i : Int) ∧ Sm Nix h hh) (l.length) ?_ ?_
 ·
  exact ⟨0, Nat.zero_le _, rfl, rfl, kr, kr, kr, kr, kr, T0⟩
 rintro mm164 fr164 h164 ⟨i, hi, hno, hm164, y164_0, y164_1, y164_2, y164_3, y164_9, T164⟩
 have N164 := T164.nx
 refine W_set (k := 0) y164_0 (W_set (k := 1) y164_1 (W_set (k := 2) y164_2 (W_set (k := 3) y164_3 (W_set (k := 9) y164_9 (W_seq (W_sg 2 kr (L_ln _ rfl rfl kr ((G.ext T164).len (T := 27) (el := 83) kr) (L_g 1 kr (L_nil ?_)))))))))
 refine W_cond (decide ((i : Int) < (l.length : Nat))) kr (fun hb => ?_) (fun hb => ?_)
 ·
  have hlt : i < l.length := by simp at hb; omega
  obtain ⟨x, hx⟩ : ∃ x, l[i]? = some x := ⟨_, List.getElem?_eq_getElem hlt⟩
  refine W_skip (W_seq (W_block (W_seq ?_)))
  rcases fits_five k q n x with ⟨h1, hf⟩ | ⟨h1, h2, hf⟩ | ⟨h1, h2, h3, hf⟩ | ⟨h1, h2, h3, h4, hf⟩ | ⟨h1, h2, h3, h4, hf⟩
  ·
   refine W_region (L_g 2 kr ?_)
   obtain ⟨b4, o4, i4, l4⟩ := ev_at (P := Tryz.prog) (T := 27) (el := 83) kr kr (G.ext T164) hx
   refine L_ix _ rfl rfl kr kr (i4) (L_g 1 kr (L_ld _ rfl rfl kr (ld_cell kr (l4 0 (by decide))) (L_g 1 kr (L_i (x.k) (k) (.bool false) rfl rfl kr kr rfl (by simp [h1]) (L_g 22 kr (L_nil ?_))))))
   refine W_cond false kr (fun e => by cases e) (fun _ => ?_)
   refine W_skip (W_rg 1 kr (L_i ((i : Int)) (1) (nv ((i + 1 : Nat) : Int)) rfl rfl kr kr rfl (inc_ok (by omega)) (L_g 1 kr (L_nil ?_))))
   exact ⟨l.length - (i + 1), by omega, i + 1, by omega, fnd_miss hno hx hf, rfl, kr, kr, kr, kr, kr, T164⟩
  ·
   refine W_region (L_g 2 kr ?_)
   obtain ⟨b4, o4, i4, l4⟩ := ev_at (P := Tryz.prog) (T := 27) (el := 83) kr kr (G.ext T164) hx
   refine L_ix _ rfl rfl kr kr (i4) (L_g 1 kr (L_ld _ rfl rfl kr (ld_cell kr (l4 0 (by decide))) (L_g 1 kr (L_i (x.k) (k) (.bool true) rfl rfl kr kr rfl (by simp [h1]) (L_g 3 kr ?_)))))
   obtain ⟨b4, o4, i4, l4⟩ := ev_at (P := Tryz.prog) (T := 27) (el := 83) kr kr (G.ext T164) hx
   refine L_want kr (L_ix _ rfl rfl kr kr (i4) (L_g 1 kr (L_want kr (L_ld _ rfl rfl kr (ld_cell kr (l4 3 (by decide))) (L_g 1 kr (L_want kr (L_i (x.n) (n) (.bool false) rfl rfl kr kr rfl (by simp [h2]) (L_g 14 kr (L_nil ?_)))))))))
   refine W_cond false kr (fun e => by cases e) (fun _ => ?_)
   refine W_skip (W_rg 1 kr (L_i ((i : Int)) (1) (nv ((i + 1 : Nat) : Int)) rfl rfl kr kr rfl (inc_ok (by omega)) (L_g 1 kr (L_nil ?_))))
   exact ⟨l.length - (i + 1), by omega, i + 1, by omega, fnd_miss hno hx hf, rfl, kr, kr, kr, kr, kr, T164⟩
  ·
   refine W_region (L_g 2 kr ?_)
   obtain ⟨b4, o4, i4, l4⟩ := ev_at (P := Tryz.prog) (T := 27) (el := 83) kr kr (G.ext T164) hx
   refine L_ix _ rfl rfl kr kr (i4) (L_g 1 kr (L_ld _ rfl rfl kr (ld_cell kr (l4 0 (by decide))) (L_g 1 kr (L_i (x.k) (k) (.bool true) rfl rfl kr kr rfl (by simp [h1]) (L_g 3 kr ?_)))))
   obtain ⟨b4, o4, i4, l4⟩ := ev_at (P := Tryz.prog) (T := 27) (el := 83) kr kr (G.ext T164) hx
   refine L_want kr (L_ix _ rfl rfl kr kr (i4) (L_g 1 kr (L_want kr (L_ld _ rfl rfl kr (ld_cell kr (l4 3 (by decide))) (L_g 1 kr (L_want kr (L_i (x.n) (n) (.bool true) rfl rfl kr kr rfl (by simp [h2]) (L_g 3 kr (L_want kr (L_i (k) (3) (.bool true) rfl rfl kr kr rfl (by simp [h3]) (L_g 10 kr ?_)))))))))))
   refine L_nil ?_
   refine W_cond true kr (fun _ => ?_) (fun e => by cases e)
   refine W_sg 2 kr (L_nil (W_ret ?_))
   repeat first | with_reducible refine then_ret ?_ | with_reducible refine blk_ret ?_
   refine done_of (v := nv (i : Int)) (.inl rfl) kr ?_
   exact ⟨by rw [fndZ_hit hno hx hf], T164⟩
  ·
   refine W_region (L_g 2 kr ?_)
   obtain ⟨b4, o4, i4, l4⟩ := ev_at (P := Tryz.prog) (T := 27) (el := 83) kr kr (G.ext T164) hx
   refine L_ix _ rfl rfl kr kr (i4) (L_g 1 kr (L_ld _ rfl rfl kr (ld_cell kr (l4 0 (by decide))) (L_g 1 kr (L_i (x.k) (k) (.bool true) rfl rfl kr kr rfl (by simp [h1]) (L_g 3 kr ?_)))))
   obtain ⟨b4, o4, i4, l4⟩ := ev_at (P := Tryz.prog) (T := 27) (el := 83) kr kr (G.ext T164) hx
   refine L_want kr (L_ix _ rfl rfl kr kr (i4) (L_g 1 kr (L_want kr (L_ld _ rfl rfl kr (ld_cell kr (l4 3 (by decide))) (L_g 1 kr (L_want kr (L_i (x.n) (n) (.bool true) rfl rfl kr kr rfl (by simp [h2]) (L_g 3 kr (L_want kr (L_i (k) (3) (.bool false) rfl rfl kr kr rfl (by simp [h3]) (L_g 3 kr ?_)))))))))))
   obtain ⟨b4, o4, i4, l4⟩ := ev_at (P := Tryz.prog) (T := 27) (el := 83) kr kr (G.ext T164) hx
   refine L_want kr (L_ix _ rfl rfl kr kr (i4) (L_g 1 kr (L_want kr (L_ld _ rfl rfl kr (ld_cell kr (l4 1 (by decide))) (L_g 1 kr (L_want kr (L_i (x.p) (q) (.bool true) rfl rfl kr kr rfl (by simp [h4]) (L_g 2 kr (L_nil ?_)))))))))
   refine W_cond true kr (fun _ => ?_) (fun e => by cases e)
   refine W_sg 2 kr (L_nil (W_ret ?_))
   repeat first | with_reducible refine then_ret ?_ | with_reducible refine blk_ret ?_
   refine done_of (v := nv (i : Int)) (.inl rfl) kr ?_
   exact ⟨by rw [fndZ_hit hno hx hf], T164⟩
  ·
   refine W_region (L_g 2 kr ?_)
   obtain ⟨b4, o4, i4, l4⟩ := ev_at (P := Tryz.prog) (T := 27) (el := 83) kr kr (G.ext T164) hx
   refine L_ix _ rfl rfl kr kr (i4) (L_g 1 kr (L_ld _ rfl rfl kr (ld_cell kr (l4 0 (by decide))) (L_g 1 kr (L_i (x.k) (k) (.bool true) rfl rfl kr kr rfl (by simp [h1]) (L_g 3 kr ?_)))))
   obtain ⟨b4, o4, i4, l4⟩ := ev_at (P := Tryz.prog) (T := 27) (el := 83) kr kr (G.ext T164) hx
   refine L_want kr (L_ix _ rfl rfl kr kr (i4) (L_g 1 kr (L_want kr (L_ld _ rfl rfl kr (ld_cell kr (l4 3 (by decide))) (L_g 1 kr (L_want kr (L_i (x.n) (n) (.bool true) rfl rfl kr kr rfl (by simp [h2]) (L_g 3 kr (L_want kr (L_i (k) (3) (.bool false) rfl rfl kr kr rfl (by simp [h3]) (L_g 3 kr ?_)))))))))))
   obtain ⟨b4, o4, i4, l4⟩ := ev_at (P := Tryz.prog) (T := 27) (el := 83) kr kr (G.ext T164) hx
   refine L_want kr (L_ix _ rfl rfl kr kr (i4) (L_g 1 kr (L_want kr (L_ld _ rfl rfl kr (ld_cell kr (l4 1 (by decide))) (L_g 1 kr (L_want kr (L_i (x.p) (q) (.bool false) rfl rfl kr kr rfl (by simp [h4]) (L_g 2 kr (L_nil ?_)))))))))
   refine W_cond false kr (fun e => by cases e) (fun _ => ?_)
   refine W_skip (W_rg 1 kr (L_i ((i : Int)) (1) (nv ((i + 1 : Nat) : Int)) rfl rfl kr kr rfl (inc_ok (by omega)) (L_g 1 kr (L_nil ?_))))
   exact ⟨l.length - (i + 1), by omega, i + 1, by omega, fnd_miss hno hx hf, rfl, kr, kr, kr, kr, kr, T164⟩
 ·
  have hge : i = l.length := by simp at hb; omega
  subst hge
  refine W_exit ?_
  repeat with_reducible refine then_exit ?_
  refine exit_here (W_sg 1 kr (L_nil (W_ret ?_)))
  repeat first | with_reducible refine then_ret ?_ | with_reducible refine blk_ret ?_
  refine done_of (v := nv (-1)) (.inl rfl) kr ?_
  exact ⟨by rw [fndZ_end hno], T164⟩
theorem earlier_ok {h : AH} {v : Value} {l : List TE} {x : TE} {i : Nat} (G : Sd h 6 v l.length (l.flatMap ev6)) (hx : l[i]? = some x) (hN : l.length < 1000000000) : Arm.Calls Tryz.prog 84 [v, nv (i : Int)] h (fun r => r.1 = nv ((before (l.take i) x : Nat) : Int) ∧ Sm Nix h r.2) := by
 have hil := (List.getElem?_eq_some_iff.1 hx).1
 refine Calls_W 47 Tryz.f84 ?_
 have T0 : Sm Nix h h := .refl
 refine W_sg 1 kr (L_nil (W_sg 1 kr (L_nil (W_seq (W_seq (W_region (L_g 1 kr ?_)))))))
 refine L_nil (W_block ?_)
 refine W_loop (fun mm fr hh => ∃ (m : Nat), (m ≤ i) ∧ mm = i - m ∧ fr 0 = v ∧ fr 1 = nv (i : Int) ∧ fr 5 = nv ((before (l.take m) x : Nat) : Int) ∧ fr 6 = nv (m : Int) ∧ Sm Nix h hh) (i) ?_ ?_
 ·
  exact ⟨0, Nat.zero_le _, rfl, kr, kr, kr, kr, T0⟩
 rintro mm165 fr165 h165 ⟨m, hm, hm165, y165_0, y165_1, y165_5, y165_6, T165⟩
 have N165 := T165.nx
 refine W_set (k := 0) y165_0 (W_set (k := 1) y165_1 (W_set (k := 5) y165_5 (W_set (k := 6) y165_6 (W_seq (W_sg 3 kr (L_nil ?_))))))
 refine W_cond (decide ((m : Int) < (i : Nat))) kr (fun hb => ?_) (fun hb => ?_)
 ·
  have hlt : m < i := by simp at hb; omega
  obtain ⟨y, hy⟩ : ∃ y, l[m]? = some y := ⟨_, List.getElem?_eq_getElem (by omega)⟩
  have hbl : before (l.take m) x ≤ m := Nat.le_trans (before_le _ _) (List.length_take_le _ _)
  refine W_skip (W_seq (W_block (W_seq ?_)))
  rcases before_four x y with ⟨h1, hs⟩ | ⟨h1, h3, hs⟩ | ⟨h1, h3, h4, hs⟩ | ⟨h1, h3, h4, hs⟩
  ·
   have hst : (if sameT x y = true then 1 else 0) = 0 := by rw [hs]; rfl
   refine W_drawn kr (D_l (l := [0,1,2,3,4,5,6,7,8,9,10,11,12,13,14,15,16,17,18,19,20,21,22,23,24,25,26,27,28,29,30,31]) kr kr Rk_nil (NS_b 2 kr ?_))
   obtain ⟨b5, o5, i5, l5⟩ := ev_at (P := Tryz.prog) (T := 27) (el := 83) kr kr (G.ext T165) hy
   refine NS_ix _ rfl rfl kr kr kr kr (i5) (NS_b 1 kr (NS_ld _ rfl rfl kr kr kr (ld_cell kr (l5 0 (by decide))) (NS_b 2 kr ?_)))
   obtain ⟨b4, o4, i4, l4⟩ := ev_at (P := Tryz.prog) (T := 27) (el := 83) kr kr (G.ext T165) hx
   refine NS_ix _ rfl rfl kr kr kr kr (i4) (NS_b 1 kr (NS_ld _ rfl rfl kr kr kr (ld_cell kr (l4 0 (by decide))) (NS_i (y.k) (x.k) (.bool false) rfl rfl kr kr kr kr rfl (by simp [h1]) (NS_b 21 kr (NS_nil ?_)))))
   refine W_cond false kr (fun e => by cases e) (fun _ => ?_)
   refine W_skip (W_rg 1 kr (L_i ((m : Int)) (1) (nv ((m + 1 : Nat) : Int)) rfl rfl kr kr rfl (inc_ok (by omega)) (L_g 1 kr (L_nil ?_))))
   exact ⟨i - (m + 1), by omega, m + 1, by omega, rfl, kr, kr, by rw [before_step hy, hst]; kernel_rfl, kr, T165⟩
  ·
   have hst : (if sameT x y = true then 1 else 0) = 1 := by rw [hs]; rfl
   refine W_drawn kr (D_l (l := [0,1,2,3,4,5,6,7,8,9,10,11,12,13,14,15,16,17,18,19,20,21,22,23,24,25,26,27,28,29,30,31]) kr kr Rk_nil (NS_b 2 kr ?_))
   obtain ⟨b5, o5, i5, l5⟩ := ev_at (P := Tryz.prog) (T := 27) (el := 83) kr kr (G.ext T165) hy
   refine NS_ix _ rfl rfl kr kr kr kr (i5) (NS_b 1 kr (NS_ld _ rfl rfl kr kr kr (ld_cell kr (l5 0 (by decide))) (NS_b 2 kr ?_)))
   obtain ⟨b4, o4, i4, l4⟩ := ev_at (P := Tryz.prog) (T := 27) (el := 83) kr kr (G.ext T165) hx
   refine NS_ix _ rfl rfl kr kr kr kr (i4) (NS_b 1 kr (NS_ld _ rfl rfl kr kr kr (ld_cell kr (l4 0 (by decide))) (NS_i (y.k) (x.k) (.bool true) rfl rfl kr kr kr kr rfl (by simp [h1]) (NS_b 3 kr ?_))))
   obtain ⟨b4, o4, i4, l4⟩ := ev_at (P := Tryz.prog) (T := 27) (el := 83) kr kr (G.ext T165) hx
   refine NS_ix _ rfl rfl kr kr kr kr (i4) (NS_b 1 kr (NS_ld _ rfl rfl kr kr kr (ld_cell kr (l4 0 (by decide))) (NS_i (x.k) (3) (.bool true) rfl rfl kr kr kr kr rfl (by simp [h3]) (NS_b 14 kr (NS_nil ?_)))))
   refine W_cond true kr (fun _ => ?_) (fun e => by cases e)
   refine W_rg 1 kr (L_i (((before (l.take m) x : Nat) : Int)) (1) (nv ((before (l.take m) x + 1 : Nat) : Int)) rfl rfl kr kr rfl (inc_ok (by omega)) (L_g 1 kr (L_nil (W_rg 1 kr (L_i ((m : Int)) (1) (nv ((m + 1 : Nat) : Int)) rfl rfl kr kr rfl (inc_ok (by omega)) (L_g 1 kr (L_nil ?_)))))))
   exact ⟨i - (m + 1), by omega, m + 1, by omega, rfl, kr, kr, by rw [before_step hy, hst]; kernel_rfl, kr, T165⟩
  ·
   have hst : (if sameT x y = true then 1 else 0) = 1 := by rw [hs]; rfl
   refine W_drawn kr (D_l (l := [0,1,2,3,4,5,6,7,8,9,10,11,12,13,14,15,16,17,18,19,20,21,22,23,24,25,26,27,28,29,30,31]) kr kr Rk_nil (NS_b 2 kr ?_))
   obtain ⟨b5, o5, i5, l5⟩ := ev_at (P := Tryz.prog) (T := 27) (el := 83) kr kr (G.ext T165) hy
   refine NS_ix _ rfl rfl kr kr kr kr (i5) (NS_b 1 kr (NS_ld _ rfl rfl kr kr kr (ld_cell kr (l5 0 (by decide))) (NS_b 2 kr ?_)))
   obtain ⟨b4, o4, i4, l4⟩ := ev_at (P := Tryz.prog) (T := 27) (el := 83) kr kr (G.ext T165) hx
   refine NS_ix _ rfl rfl kr kr kr kr (i4) (NS_b 1 kr (NS_ld _ rfl rfl kr kr kr (ld_cell kr (l4 0 (by decide))) (NS_i (y.k) (x.k) (.bool true) rfl rfl kr kr kr kr rfl (by simp [h1]) (NS_b 3 kr ?_))))
   obtain ⟨b4, o4, i4, l4⟩ := ev_at (P := Tryz.prog) (T := 27) (el := 83) kr kr (G.ext T165) hx
   refine NS_ix _ rfl rfl kr kr kr kr (i4) (NS_b 1 kr (NS_ld _ rfl rfl kr kr kr (ld_cell kr (l4 0 (by decide))) (NS_i (x.k) (3) (.bool false) rfl rfl kr kr kr kr rfl (by simp [h3]) (NS_b 3 kr ?_))))
   obtain ⟨b5, o5, i5, l5⟩ := ev_at (P := Tryz.prog) (T := 27) (el := 83) kr kr (G.ext T165) hy
   refine NS_ix _ rfl rfl kr kr kr kr (i5) (NS_b 1 kr (NS_ld _ rfl rfl kr kr kr (ld_cell kr (l5 1 (by decide))) (NS_b 2 kr ?_)))
   obtain ⟨b4, o4, i4, l4⟩ := ev_at (P := Tryz.prog) (T := 27) (el := 83) kr kr (G.ext T165) hx
   refine NS_ix _ rfl rfl kr kr kr kr (i4) (NS_b 1 kr (NS_ld _ rfl rfl kr kr kr (ld_cell kr (l4 1 (by decide))) (NS_i (y.p) (x.p) (.bool true) rfl rfl kr kr kr kr rfl (by simp [h4]) (NS_b 2 kr (NS_nil ?_)))))
   refine W_cond true kr (fun _ => ?_) (fun e => by cases e)
   refine W_rg 1 kr (L_i (((before (l.take m) x : Nat) : Int)) (1) (nv ((before (l.take m) x + 1 : Nat) : Int)) rfl rfl kr kr rfl (inc_ok (by omega)) (L_g 1 kr (L_nil (W_rg 1 kr (L_i ((m : Int)) (1) (nv ((m + 1 : Nat) : Int)) rfl rfl kr kr rfl (inc_ok (by omega)) (L_g 1 kr (L_nil ?_)))))))
   exact ⟨i - (m + 1), by omega, m + 1, by omega, rfl, kr, kr, by rw [before_step hy, hst]; kernel_rfl, kr, T165⟩
  ·
   have hst : (if sameT x y = true then 1 else 0) = 0 := by rw [hs]; rfl
   refine W_drawn kr (D_l (l := [0,1,2,3,4,5,6,7,8,9,10,11,12,13,14,15,16,17,18,19,20,21,22,23,24,25,26,27,28,29,30,31]) kr kr Rk_nil (NS_b 2 kr ?_))
   obtain ⟨b5, o5, i5, l5⟩ := ev_at (P := Tryz.prog) (T := 27) (el := 83) kr kr (G.ext T165) hy
   refine NS_ix _ rfl rfl kr kr kr kr (i5) (NS_b 1 kr (NS_ld _ rfl rfl kr kr kr (ld_cell kr (l5 0 (by decide))) (NS_b 2 kr ?_)))
   obtain ⟨b4, o4, i4, l4⟩ := ev_at (P := Tryz.prog) (T := 27) (el := 83) kr kr (G.ext T165) hx
   refine NS_ix _ rfl rfl kr kr kr kr (i4) (NS_b 1 kr (NS_ld _ rfl rfl kr kr kr (ld_cell kr (l4 0 (by decide))) (NS_i (y.k) (x.k) (.bool true) rfl rfl kr kr kr kr rfl (by simp [h1]) (NS_b 3 kr ?_))))
   obtain ⟨b4, o4, i4, l4⟩ := ev_at (P := Tryz.prog) (T := 27) (el := 83) kr kr (G.ext T165) hx
   refine NS_ix _ rfl rfl kr kr kr kr (i4) (NS_b 1 kr (NS_ld _ rfl rfl kr kr kr (ld_cell kr (l4 0 (by decide))) (NS_i (x.k) (3) (.bool false) rfl rfl kr kr kr kr rfl (by simp [h3]) (NS_b 3 kr ?_))))
   obtain ⟨b5, o5, i5, l5⟩ := ev_at (P := Tryz.prog) (T := 27) (el := 83) kr kr (G.ext T165) hy
   refine NS_ix _ rfl rfl kr kr kr kr (i5) (NS_b 1 kr (NS_ld _ rfl rfl kr kr kr (ld_cell kr (l5 1 (by decide))) (NS_b 2 kr ?_)))
   obtain ⟨b4, o4, i4, l4⟩ := ev_at (P := Tryz.prog) (T := 27) (el := 83) kr kr (G.ext T165) hx
   refine NS_ix _ rfl rfl kr kr kr kr (i4) (NS_b 1 kr (NS_ld _ rfl rfl kr kr kr (ld_cell kr (l4 1 (by decide))) (NS_i (y.p) (x.p) (.bool false) rfl rfl kr kr kr kr rfl (by simp [h4]) (NS_b 2 kr (NS_nil ?_)))))
   refine W_cond false kr (fun e => by cases e) (fun _ => ?_)
   refine W_skip (W_rg 1 kr (L_i ((m : Int)) (1) (nv ((m + 1 : Nat) : Int)) rfl rfl kr kr rfl (inc_ok (by omega)) (L_g 1 kr (L_nil ?_))))
   exact ⟨i - (m + 1), by omega, m + 1, by omega, rfl, kr, kr, by rw [before_step hy, hst]; kernel_rfl, kr, T165⟩
 ·
  have hge : m = i := by simp at hb; omega
  subst hge
  refine W_exit ?_
  repeat with_reducible refine then_exit ?_
  refine exit_here (W_sg 2 kr (L_nil (W_ret ?_)))
  repeat first | with_reducible refine then_ret ?_ | with_reducible refine blk_ret ?_
  refine done_of (v := nv ((before (l.take m) x : Nat) : Int)) (.inl rfl) kr ?_
  exact ⟨rfl, T165⟩
end
end Go.Proofs.YtjhbbdfbngbjcaaGreatDoor
