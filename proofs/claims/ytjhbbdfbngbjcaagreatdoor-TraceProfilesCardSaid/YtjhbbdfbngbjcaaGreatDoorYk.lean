/- A part of the walks of profiles. -/
import Derived.Test.YtjhbbdfbngbjcaaGreatDoorZu
namespace Go.Proofs.YtjhbbdfbngbjcaaGreatDoor
noncomputable section
open Go Go.X Go.Arm
theorem reverse_ok {h : AH} {v : Value} {l : List (Nat × Nat)} (G : Ws h 2 v l.length (l.flatMap st2)) (hN : l.length < 1000000000) :
  Arm.Calls Tryz.prog 23 [v] h (fun r => Ws r.2 2 v l.length (l.reverse.flatMap st2) ∧ Sm (fun b => vb v = some b) h r.2) := by
 refine Calls_W 28 Tryz.f23 ?_
 have T0 : Sm (fun b => vb v = some b) h h := .refl
 refine W_sg 1 kr (L_ln _ rfl rfl kr (G.lenV (T := 32) (el := 91) kr) (L_i ((l.length : Int)) (1) (nv ((l.length : Int) - 1)) rfl rfl kr kr rfl (wrap_id (by omega) (by omega)) (L_g 2 kr (L_nil (W_block ?_)))))
 refine W_loop (fun mm fr hh => ∃ (k : Nat) (c : List (Nat × Nat)), (k ≤ l.length) ∧ (c.length = l.length) ∧ (∀ m, m < l.length → c[m]? = rvL l k m) ∧ (Ws hh 2 v c.length (c.flatMap st2)) ∧ mm = l.length - k ∧ fr 0 = v ∧ fr 2 = nv (k : Int) ∧ fr 3 = nv ((l.length : Int) - 1 - k) ∧ Sm (fun b => vb v = some b) h hh) (l.length) ?_ ?_
 ·
  exact ⟨0, l, Nat.zero_le _, rfl, (fun m hm => rvL_0 l m hm), G, rfl, kr, kr, by rw [show ((l.length : Int) - 1 - ((0 : Nat) : Int)) = (l.length : Int) - 1 by omega]; kernel_rfl, T0⟩
 rintro mm121 fr121 h121 ⟨k, c, hk, hc, hr, Gc, hm121, y121_0, y121_2, y121_3, T121⟩
 have N121 := T121.nx
 refine W_set (k := 0) y121_0 (W_set (k := 2) y121_2 (W_set (k := 3) y121_3 (W_seq (W_sg 2 kr (L_i ((k : Int)) (((l.length : Int) - 1 - k)) (.bool (decide ((k : Int) < (l.length : Int) - 1 - k))) rfl rfl kr kr rfl (rfl) (L_nil ?_))))))
 refine W_cond (decide ((k : Int) < (l.length : Int) - 1 - k)) kr (fun hb => ?_) (fun hb => ?_)
 ·
  have hlt : (k : Int) < (l.length : Int) - 1 - k := of_decide_eq_true hb
  have hkj : k < l.length - 1 - k := by omega
  obtain ⟨ei, hei⟩ : ∃ e, c[k]? = some e := ⟨_, List.getElem?_eq_getElem (by omega)⟩
  obtain ⟨ej, hej⟩ : ∃ e, c[l.length - 1 - k]? = some e := ⟨_, List.getElem?_eq_getElem (by omega)⟩
  have hjz : ((l.length : Int) - 1 - k) = ((l.length - 1 - k : Nat) : Int) := by omega
  have hci : c[k]'(by omega) = ei := (List.getElem?_eq_some_iff.1 hei).2
  have hcj : c[l.length - 1 - k]'(by omega) = ej := (List.getElem?_eq_some_iff.1 hej).2
  refine W_skip (W_seq (W_block (W_drawn kr (D_e (e := 13) (l := [0,1,2,3,4,5,6,7,8,9,10,11,12]) (s' := [2,3]) kr kr rfl kr Rk_nil (NS_b 6 kr ?_)))))
  obtain ⟨qj, xj, lj, vj, sj⟩ := Ws.elemK (P := Tryz.prog) (T := 32) (el := 91) st2 st2_len (fun a => st2_one) (by decide) kr kr kr Gc (i := l.length - 1 - k) (by omega) .i64
  rw [hcj] at lj
  obtain ⟨qjb, qjo, qjs⟩ := qj
  refine NS_ix _ rfl rfl kr kr kr kr (show aIndex Tryz.prog 32 v (.int .i64 ((l.length : Int) - 1 - k)) = some (.pointer (some ⟨qjb, qjo, qjs⟩)) by rw [hjz]; exact xj) (NS_ld _ rfl rfl kr kr kr (lj) (NS_b 2 kr ?_))
  obtain ⟨qi, xi, li, vi, si⟩ := Ws.elemK (P := Tryz.prog) (T := 32) (el := 91) st2 st2_len (fun a => st2_one) (by decide) kr kr kr Gc (i := k) (by omega) .i64
  rw [hci] at li
  refine NS_ix _ rfl rfl kr kr kr kr (xi) (NS_ld _ rfl rfl kr kr kr (li) (NS_ix _ rfl rfl kr kr kr kr (xi) (NS_nil ?_)))
  obtain ⟨h122, e122, G122, t122, n122⟩ := si ej
  obtain ⟨q2, x2, _, _, s2⟩ := Ws.elemK (P := Tryz.prog) (T := 32) (el := 91) st2 st2_len (fun a => st2_one) (by decide) kr kr kr (show Ws h122 2 v (c.set k ej).length ((c.set k ej).flatMap st2) by rw [List.length_set]; exact G122) (i := l.length - 1 - k) (by rw [List.length_set]; omega) .i64
  refine L_st _ rfl rfl rfl kr kr (e122) ?_
  have T122 : Sm (fun b => vb v = some b) h h122 := T121.then t122
  have N122 := T122.nx
  refine L_nil ⟨rfl, ?_⟩
  refine D_e (e := 15) (l := [14]) (s' := []) kr kr rfl kr (Rk_noRead kr) (NS_ix _ rfl rfl kr kr kr kr (show aIndex Tryz.prog 32 v (.int .i64 ((l.length : Int) - 1 - k)) = some (.pointer (some q2)) by rw [hjz]; exact x2) (NS_nil ?_))
  obtain ⟨h123, e123, G123, t123, n123⟩ := s2 ei
  refine L_st _ rfl rfl rfl kr kr (e123) ?_
  have T123 : Sm (fun b => vb v = some b) h h123 := T122.then t123
  have N123 := T123.nx
  refine L_nil ⟨rfl, ?_⟩
  refine D_l (l := []) kr kr Rk_nil (NS_nil (W_rg 1 kr (L_i ((k : Int)) (1) (nv ((k + 1 : Nat) : Int)) rfl rfl kr kr rfl (inc_ok (by omega)) (L_g 1 kr (L_i (((l.length : Int) - 1 - k)) (1) (nv ((l.length : Int) - 1 - (k + 1 : Nat))) rfl rfl kr kr rfl (by rw [show (l.length : Int) - 1 - (k + 1 : Nat) = (l.length : Int) - 1 - k - 1 by omega]; exact wrap_id (by omega) (by omega)) (L_g 2 kr (L_nil ?_)))))))
  exact ⟨l.length - (k + 1), by omega, k + 1, ((c.set k ej).set (l.length - 1 - k) ei), by omega, by simp [hc], rvL_step hc hkj hr hei hej, (by rw [List.length_set, List.length_set] at *; exact G123), rfl, kr, kr, kr, T123⟩
 ·
  have hge : ¬ (k : Int) < (l.length : Int) - 1 - k := of_decide_eq_false hb
  refine W_exit ?_
  repeat with_reducible refine then_exit ?_
  refine exit_here (done_of (v := .tuple ⟨[]⟩) (.inr rfl) kr ?_)
  have hcr := rvL_end hc (show ¬ k < l.length - 1 - k by omega) hr
  rw [hcr, List.length_reverse] at Gc
  exact ⟨Gc, T121⟩
end
end Go.Proofs.YtjhbbdfbngbjcaaGreatDoor
