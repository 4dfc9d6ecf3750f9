/- A part of the walks of profiles. -/
import Derived.Test.YtjhbbdfbngbjcaaGreatDoorZu
namespace Go.Proofs.YtjhbbdfbngbjcaaGreatDoor
noncomputable section
open Go Go.X Go.Arm
def rB (v : Value) (_ : Bool) : Prop := v = .bool true
theorem uRecv : Tryz.prog.underlying 207 = some (.map 159 4) := by kernel_rfl
theorem zBool : zeroOf Tryz.prog 4 = some (.bool false) := by kernel_rfl
theorem lookRecv {h : AH} {b : Nat} {m : List ((Int × Int × Int) × Bool)} (H : Mp h b k3 rB m) (k : Int × Int × Int) : aLookup Tryz.prog 207 (.map (some b)) (k3 k) false h = some (.bool (kget m k).isSome) := by
 rcases H.lookup uRecv kMsg zBool k false with ⟨h1, h2⟩ | ⟨v, x, h1, h2, h3⟩
 · rw [h1, h2]; rfl
 · rw [h1, h3, show v = _ from h2]; rfl
def cntV (N : Nat) (l : List TE) : List Value := (List.range N).map fun q => nv ((cntS l q : Nat) : Int)
theorem cntV_len (N : Nat) (l : List TE) : (cntV N l).length = N := by unfold cntV; simp
theorem cntV_0 (N : Nat) : zrep N [nv 0] = cntV N [] := by
 have h1 := zrep_flat (fun (_ : Unit) => [nv 0]) () N
 rw [h1]
 unfold cntV
 apply List.ext_getElem?
 intro i
 by_cases hi : i < N
 · have h2 := flat_get (fun (_ : Unit) => [nv 0]) (k := 1) (fun _ => rfl) (List.replicate N ()) i 0 (by decide)
   rw [Nat.mul_one, Nat.add_zero] at h2
   rw [h2]
   simp [hi, cntS]
 · rw [List.getElem?_eq_none (by rw [flat_len (fun (_ : Unit) => [nv 0]) (k := 1) (fun _ => rfl)]; simp; omega), List.getElem?_eq_none (by simp; omega)]
theorem cntV_at {N q : Nat} (h : q < N) (l : List TE) : (cntV N l)[q]? = some (nv ((cntS l q : Nat) : Int)) := by unfold cntV; simp [h]
theorem cntV_no {N : Nat} {l : List TE} {x : TE} (h : x.k ≠ 1) : cntV N (l ++ [x]) = cntV N l := by
 unfold cntV cntS
 simp [h]
theorem cntV_set {N q : Nat} {l : List TE} {x : TE} (h : x.k = 1) (hq : x.p = (q : Int)) : (cntV N l).set q (nv ((cntS l q + 1 : Nat) : Int)) = cntV N (l ++ [x]) := by
 unfold cntV
 rw [map_set_range]
 refine List.map_congr_left fun r _ => ?_
 unfold cntS
 rw [List.countP_append]
 by_cases e : r = q
 · subst e; simp [h, hq]
 · have : ¬ ((q : Int) = (r : Int)) := by omega
   simp [h, hq, e, this]
theorem ix_z {P : Program} {T el : TypeId} {b n i : Nat} {z : Int} (hT : P.underlying T = some (.slice el)) (hs : szOf P el = some 1) (hz : z = (i : Int)) (hi : i < n) (kd : IntKind) : aIndex P T (.slice (some ⟨b, 0, none⟩) n n) (.int kd z) = some (.pointer (some ⟨b, i, none⟩)) := by
 subst hz; exact ix_cl hT hs hi kd
theorem peer3 (N : Nat) (x : TE) : (0 ≤ x.p ∧ x.p < N ∧ ∃ q : Nat, x.p = (q : Int) ∧ q < N) ∨ (0 ≤ x.p ∧ ¬ x.p < N) ∨ ¬ 0 ≤ x.p := by
 by_cases h0 : 0 ≤ x.p
 · by_cases h1 : x.p < N
   · exact .inl ⟨h0, h1, x.p.toNat, by omega, by omega⟩
   · exact .inr (.inl ⟨h0, h1⟩)
 · exact .inr (.inr h0)
theorem cntM_app (l : List TE) (x : TE) : cntM (l ++ [x]) = cntM l + if x.k = 3 then 1 else 0 := by
 unfold cntM; rw [List.countP_append]; simp [List.countP_cons]
theorem meetL_metI (L : Lf) (no : Int) (p : Nat) : meetL L no (p + 1) = meetL L no p ++ metI L p (L p).length no := by
 show (match fnd (L p) 3 0 no with | none => meetL L no p | some i => meetL L no p ++ [(p, i)]) = _
 unfold metI
 rw [List.take_length]
 cases fnd (L p) 3 0 no <;> simp
theorem metI_0 (L : Lf) (p : Nat) (no : Int) : metI L p 0 no = [] := by unfold metI; simp [fnd]
def SB2 (sb mb : Nat) (b : Nat) : Prop := b = sb ∨ b = mb
section
variable {N : Nat} {pre : List TE} {x : TE}
theorem okE_send {q : Nat} (hk : x.k = 1) (hq : x.p = (q : Int)) (hqN : q < N) : okE N pre x = decide (x.n = ((cntS pre q : Nat) : Int)) := by
 unfold okE
 rw [if_pos hk, before_send hk hq]
 have : peerOk N x = true := by unfold peerOk; simp; omega
 rw [this, Bool.true_and]
theorem okE_recv (hk : x.k = 2) (h0 : 0 ≤ x.p) (h1 : x.p < N) : okE N pre x = (fnd pre 2 x.p x.n).isNone := by
 unfold okE
 rw [if_neg (by omega), if_pos hk]
 have : peerOk N x = true := by unfold peerOk; simp; omega
 rw [this, Bool.true_and]
theorem okE_meet (hk : x.k = 3) : okE N pre x = decide (x.n = ((cntM pre : Nat) : Int)) := by
 unfold okE
 rw [if_neg (by omega), if_neg (by omega), if_pos hk, before_meet hk]
theorem okE_work (hk : x.k = 4) : okE N pre x = (decide (0 ≤ x.v) && decide (x.v ≤ 1048576)) := by
 unfold okE
 rw [if_neg (by omega), if_neg (by omega), if_neg (by omega), if_pos hk]
theorem okE_peer (hk : x.k = 1 ∨ x.k = 2) (h : ¬ (0 ≤ x.p ∧ x.p < N)) : okE N pre x = false := by
 have : peerOk N x = false := by unfold peerOk; simp; omega
 unfold okE
 rcases hk with hk | hk
 · rw [if_pos hk, this, Bool.false_and]
 · rw [if_neg (by omega), if_pos hk, this, Bool.false_and]
theorem okE_none (h1 : x.k ≠ 1) (h2 : x.k ≠ 2) (h3 : x.k ≠ 3) (h4 : x.k ≠ 4) : okE N pre x = false := by
 unfold okE
 rw [if_neg h1, if_neg h2, if_neg h3, if_neg h4]
end
theorem metI_next {N p i : Nat} {L : Lf} {x : TE} (hx : (L p)[i]? = some x) (hk : x.k = 3) (hok : okL N [] ((L p).take i) = true) (hn : x.n = before ((L p).take i) x) (no : Int) :
   meetL L no p ++ metI L p (i + 1) no = ups (fun no => meetL L no p ++ metI L p i no) x.n (meetL L x.n p ++ metI L p i x.n ++ [(p, i)]) no := by
 obtain ⟨h1, h2, h3⟩ := metI_put hx hk hok hn
 by_cases e : no = x.n
 · subst e; rw [ups_at, h1, h2, List.append_nil]
 · rw [ups_ne _ _ e, h3 no e]
set_option maxHeartbeats 8000000 in
theorem index_ok {h : AH} {F : Nat → Prop} {tb sb mb N : Nat} {VL : Option Nat → Value} {sp : Value} {L : Lf} {C : TC} (I : IT h F tb sb mb VL sp N L C) (hs0 : Mp h sb k3 r2 []) (hm0 : Mp h mb nv eqV []) (hF : ∀ b, SB2 sb mb b → ¬ F b) (hsm : sb ≠ mb) (hB : ∀ q, (L q).length < 1000000000) (hN : N < 1000000) :
  Arm.Calls Tryz.prog 47 [ptr tb] h (fun r => r.1 = .bool (idxB N L) ∧ Sm (SB2 sb mb) h r.2 ∧ (idxB N L = true → Mp r.2 sb k3 r2 (sendsA 0 ((List.range N).map L)) ∧ ∃ mt, Mp r.2 mb nv (Rst r.2 (fun b => h.next ≤ b)) mt ∧ ∀ no, (kget mt no).getD [] = meetL L no N)) := by
 have I0s := hs0.1
 have I0m := hm0.1
 refine Calls_W 160 Tryz.f47 ?_
 have T0 : Sm (SB2 sb mb) h h := .refl
 refine W_sg 1 kr (L_nil (W_seq (W_region (L_nw Al.map .mp rfl rfl kr ?_))))
 have m900 : Mp (h.push (Al.map).obj) h.next k3 rB ([] : List ((Int × Int × Int) × Bool)) := Mp.new h
 have mb900 : Mb (h.push (Al.map).obj) h.next := Mb.new h
 have t900 : Sm Nix h (h.push (Al.map).obj) := .push h _
 have n900 : (h.push (Al.map).obj).next = h.next + 1 := rfl
 generalize h.push (Al.map).obj = h900 at m900 mb900 t900 n900 ⊢
 have T900 := T0.ext t900
 have N900 := T900.nx
 have s900 := hs0.sm t900 (fun x => x) (fun _ _ e => e)
 have x900 : MX h900 mb (fun b => b ≤ h.next) [] (fun _ => []) := MX.new (hm0.sm t900 (fun x => x) (fun _ _ e => e)) (fun b hb => by omega) (by omega)
 refine L_g 1 kr (L_nil (W_seq (W_sg 3 kr (L_ld _ rfl rfl kr ((I.sm T900 hF).cl.ld (o := 0) kr rfl) (L_ln _ rfl rfl kr ((I.sm T900 hF).inp.len (T := 26) (el := 28) kr) (L_g 1 kr (L_nil (W_block ?_))))))))
 refine W_loop (fun mm fr hh => ∃ (p : Nat) (mv : List (Int × Value)), (p ≤ N) ∧ (∀ q, q < p → okL N [] (L q) = true) ∧ (Mp hh sb k3 r2 (sndS L p)) ∧ (Mp hh h.next k3 rB (rcvS L p)) ∧ (Mb hh h.next) ∧ (MX hh mb (fun b => b ≤ h.next) mv (fun no => meetL L no p)) ∧ ((mv.map (·.1)).Nodup) ∧ (h.next < hh.next) ∧ mm = N - p ∧ fr 0 = ptr tb ∧ fr 3 = .map (some h.next) ∧ fr 19 = VL none ∧ fr 20 = nv (N : Int) ∧ fr 21 = nv (p : Int) ∧ Sm (SB2 sb mb) h hh) (N) ?_ ?_
 ·
  exact ⟨0, [], Nat.zero_le _, (fun q hq => by omega), s900, m900, mb900, x900, (by simp), (by omega), rfl, kr, kr, kr, kr, kr, T900⟩
 rintro mm31 fr31 h31 ⟨p, mv, hp, hok, hs, hr, hrb, hX, hnd, hh1, hm31, y31_0, y31_3, y31_19, y31_20, y31_21, T31⟩
 have N31 := T31.nx
 refine W_set (k := 0) y31_0 (W_set (k := 3) y31_3 (W_set (k := 19) y31_19 (W_set (k := 20) y31_20 (W_set (k := 21) y31_21 ?_))))
 have U31 : Sm Nix h31 h31 := .refl
 refine W_sg 1 kr (L_nil (W_seq ?_))
 refine W_cond (decide ((p : Int) < (N : Nat))) kr (fun hb => ?_) (fun hb => ?_)
 ·
  have hlt : p < N := by simp at hb; omega
  have hBp := hB p
  refine W_skip (W_seq (W_block (W_seq (W_region (L_g 1 kr ?_)))))
  obtain ⟨b3, o3, i3, l3⟩ := (I.sm T31 hF).inp.row (T := 26) (el := 28) kr kr kr hlt
  refine L_ix _ rfl rfl kr kr (i3) (L_ld _ rfl rfl kr (l3) (L_g 2 kr (L_nil (W_sg 3 kr (L_ld _ rfl rfl kr ((I.sm T31 hF).cl.ld (o := 0) kr rfl) (L_ln _ rfl rfl kr ((I.sm T31 hF).inp.len (T := 26) (el := 28) kr) (L_nwc (zrep N [nv 0]) (.sl N N) rfl rfl (ev_mkK (P := Tryz.prog) (k := 1) (el := 3) (z := nv 0) (by_ := 8) kr kr kr kr rfl (by omega) kr kr) fun h32 c32 t32 n32 => ?_)))))))
  have T32 := T31.ext t32
  have U32 := U31.ext t32
  have N32 := T32.nx
  have NU32 := U32.nx
  have hB0 : h.next < h31.next := by omega
  have hB1 := c32.lt
  refine L_g 2 kr (L_nil (W_sg 1 kr (L_ln _ rfl rfl kr ((I.sm T32 hF).inp.lenR (T := 28) (el := 59) kr hlt) (L_g 1 kr (L_nil (W_block ?_))))))
  refine W_loop (fun mm fr hh => ∃ (i : Nat) (mv : List (Int × Value)), (i ≤ (L p).length) ∧ (Mp hh sb k3 r2 (sndI L p i)) ∧ (Mp hh h.next k3 rB (rcvI L p i)) ∧ (Mb hh h.next) ∧ (MX hh mb (fun b => b ≤ h.next ∨ b = h31.next) mv (fun no => meetL L no p ++ metI L p i no)) ∧ ((mv.map (·.1)).Nodup) ∧ (okL N [] ((L p).take i) = true) ∧ mm = (L p).length - i ∧ fr 0 = ptr tb ∧ fr 3 = .map (some h.next) ∧ fr 4 = nv (p : Int) ∧ fr 5 = VL (some p) ∧ fr 6 = .slice (some ⟨h31.next, 0, none⟩) N N ∧ fr 7 = nv ((cntM ((L p).take i) : Nat) : Int) ∧ fr 19 = VL none ∧ fr 20 = nv (N : Int) ∧ fr 21 = nv (p : Int) ∧ fr 32 = VL (some p) ∧ fr 33 = nv ((L p).length : Int) ∧ fr 34 = nv (i : Int) ∧ Sm (SB2 sb mb) h hh ∧ Cl hh (h31.next) (cntV N ((L p).take i))) ((L p).length) ?_ ?_
  ·
   rw [cntV_0] at c32
   exact ⟨0, mv, Nat.zero_le _, by rw [sndI_0]; exact hs.sm U32 (fun x => x) (fun _ _ e => e), by rw [rcvI_0]; exact hr.sm U32 (fun x => x) (fun _ _ e => e), hrb.sm U32 hr.1 (fun x => x), (hX.avoid U32 (av' := fun b => b ≤ h.next ∨ b = h31.next) (fun b hb => by rcases hb with hb | hb <;> omega) (.inl (by omega)) (fun b hb => hb.elim .inl (fun e => .inr (by omega)))).eq (fun no => by rw [metI_0, List.append_nil]), hnd, rfl, rfl, kr, kr, kr, kr, kr, kr, kr, kr, kr, kr, kr, kr, T32, c32⟩
  rintro mm33 fr33 h33 ⟨i, mv, hi, hs, hr, hrb, hX, hnd, hoki, hm33, y33_0, y33_3, y33_4, y33_5, y33_6, y33_7, y33_19, y33_20, y33_21, y33_32, y33_33, y33_34, T33, c32⟩
  have N33 := T33.nx
  have B33_t31 := c32.lt
  refine W_set (k := 0) y33_0 (W_set (k := 3) y33_3 (W_set (k := 4) y33_4 (W_set (k := 5) y33_5 (W_set (k := 6) y33_6 (W_set (k := 7) y33_7 (W_set (k := 19) y33_19 (W_set (k := 20) y33_20 (W_set (k := 21) y33_21 (W_set (k := 32) y33_32 (W_set (k := 33) y33_33 (W_set (k := 34) y33_34 ?_)))))))))))
  have U33 : Sm (fun b => b = h31.next) h33 h33 := .refl
  refine W_sg 1 kr (L_nil (W_seq ?_))
  refine W_cond (decide ((i : Int) < ((L p).length : Nat))) kr (fun hb => ?_) (fun hb => ?_)
  ·
   have hlt2 : i < (L p).length := by simp at hb; omega
   obtain ⟨x, hx⟩ : ∃ x, (L p)[i]? = some x := ⟨_, List.getElem?_eq_getElem hlt2⟩
   have hcS : ∀ q, cntS ((L p).take i) q ≤ i := fun q => Nat.le_trans (cntS_le _ _) (List.length_take_le _ _)
   have hcM : cntM ((L p).take i) ≤ i := Nat.le_trans (cntM_le _) (List.length_take_le _ _)
   have hml : (meetL L x.n p ++ metI L p i x.n).length < 1000000000 := by
    have h1 := meetL_len L x.n p
    have h2 : (metI L p i x.n).length ≤ 1 := by unfold metI; split <;> simp
    rw [List.length_append]; omega
   refine W_skip (W_seq (W_block (W_seq (W_region (L_g 1 kr ?_)))))
   obtain ⟨b4, o4, i4, l4⟩ := (I.sm T33 hF).inp.ev (T := 28) (el := 59) kr kr hlt hx
   refine L_ix _ rfl rfl kr kr (i4) (L_ld _ rfl rfl kr (ld_l (l := ev6 x) kr l4) (L_nwc [nv 0, nv 0, nv 0, nv 0, nv 0, .bool false] .ptr rfl rfl kr fun h34 c34 t34 n34 => ?_))
   replace c32 := c32.ext t34
   have T34 := T33.ext t34
   have U34 : Sm (fun b => b = h31.next) h33 h34 := U33.ext t34
   have N34 := T34.nx
   have NU34 := U34.nx
   refine L_g 1 kr ?_
   obtain ⟨h35, e35, d35, t35, n35⟩ := Cl.storeN (P := Tryz.prog) (T := 59) (n := 6) (v := .agg ⟨(ev6 x)⟩) (cs := (ev6 x)) c34 rfl kr rfl (by first | exact ev6_len _ | exact cntV_len _ _) (List.all_eq_true.1 rfl)
   replace c32 := c32.sn t35
   replace c34 := d35
   have T35 := T34.tr t35
   have U35 : Sm (fun b => b = h31.next) h33 h35 := U34.tr t35
   have N35 := T35.nx
   have NU35 := U35.nx
   refine L_st _ rfl rfl rfl kr kr (e35) (L_nil (W_seq ?_))
   rcases peer3 N x with ⟨hp0, hp1, q, hq, hqN⟩ | ⟨hp0, hp1⟩ | hp0
   ·
    refine W_drawn kr (D_l (l := [0,1,2,3,4,5,6,7,8,9,10,11,12,13]) kr kr Rk_nil (NS_b 1 kr (NS_ld _ rfl rfl kr kr kr (c34.ld (o := 1) kr rfl) (NS_i (x.p) (0) (.bool true) rfl rfl kr kr kr kr rfl (by first | (simp; done) | (simp; omega)) (NS_b 2 kr (NS_ld _ rfl rfl kr kr kr (c34.ld (o := 1) kr rfl) (NS_b 3 kr (NS_ld _ rfl rfl kr kr kr ((I.sm T35 hF).cl.ld (o := 0) kr rfl) (NS_ln _ rfl rfl kr kr kr ((I.sm T35 hF).inp.len (T := 26) (el := 28) kr) (NS_i (x.p) ((N : Int)) (.bool true) rfl rfl kr kr kr kr rfl (by first | (simp; done) | (simp; omega)) (NS_b 2 kr ?_)))))))))))
    refine NS_nil (W_sg 1 kr (L_ld _ rfl rfl kr (c34.ld (o := 0) kr rfl) (L_nil (W_block (W_seq (W_region (L_i (x.k) (1) (.bool (decide (x.k = 1))) rfl rfl kr kr rfl (rfl) (L_g 1 kr (L_nil ?_)))))))))
    refine W_cond (decide (x.k = 1)) kr (fun hb => ?_) (fun hb => ?_)
    ·
     have hk1 : x.k = 1 := of_decide_eq_true hb
     refine W_seq (W_seq (W_drawn kr (D_l (l := [0,1,2,3,4,5,6,7,8,9,10,11]) kr kr Rk_nil (NS_b 4 kr (NS_ld _ rfl rfl kr kr kr (c34.ld (o := 3) kr rfl) (NS_b 2 kr (NS_ld _ rfl rfl kr kr kr (c34.ld (o := 1) kr rfl) (NS_ix _ rfl rfl kr kr kr kr (ix_z (b := h31.next) (el := 3) (n := N) kr kr hq hqN .i64) (NS_ld _ rfl rfl kr kr kr (c32.ld (o := q) kr (cntV_at hqN _)) (NS_i (x.n) (((cntS ((L p).take i) q : Nat) : Int)) (.bool (!decide (x.n = ((cntS ((L p).take i) q : Nat) : Int)))) rfl rfl kr kr kr kr rfl (rfl) (NS_b 1 kr ?_)))))))))))
     refine NS_nil ?_
     refine W_cond (!decide (x.n = ((cntS ((L p).take i) q : Nat) : Int))) kr (fun hb => ?_) (fun hb => ?_)
     ·
      refine W_sg 1 kr (L_nil (W_ret ?_))
      repeat first | with_reducible refine then_ret ?_ | with_reducible refine blk_ret ?_
      have hbad : idxB N L = false := by
        refine idxB_bad hlt (okL_bad hx ?_)
        rw [okE_send hk1 hq hqN]
        simpa using hb
      refine done_of (v := .bool false) (.inl rfl) kr ?_
      exact ⟨by rw [hbad], T35, fun hb => by rw [hbad] at hb; cases hb⟩
     ·
      have hn1 : x.n = ((cntS ((L p).take i) q : Nat) : Int) := by simpa using hb
      have hE : okE N ((L p).take i) x = true := by rw [okE_send hk1 hq hqN]; simpa using hn1
      refine W_skip (W_sg 2 kr (L_ld _ rfl rfl kr (c34.ld (o := 1) kr rfl) (L_ix _ rfl rfl kr kr (ix_z (b := h31.next) (el := 3) (n := N) kr kr hq hqN .i64) (L_ld _ rfl rfl kr (c32.ld (o := q) kr (cntV_at hqN _)) (L_i (((cntS ((L p).take i) q : Nat) : Int)) (1) (nv ((cntS ((L p).take i) q + 1 : Nat) : Int)) rfl rfl kr kr rfl (inc_ok (by have := hcS q; omega)) (L_ix _ rfl rfl kr kr (ix_z (b := h31.next) (el := 3) (n := N) kr kr hq hqN .i64) ?_))))))
      obtain ⟨h36, e36, d36, t36, n36⟩ := c32.store (P := Tryz.prog) (T := 3) (o := q) (v := nv ((cntS ((L p).take i) q + 1 : Nat) : Int)) kr rfl rfl (by rw [cntV_len]; exact hqN)
      rw [cntV_set hk1 hq, ← take_one hx] at d36
      replace c34 := c34.sn t36
      replace c32 := d36
      have T36 := T35.tr t36
      have U36 : Sm (fun b => b = h31.next) h33 h36 := U35.tr t36
      have N36 := T36.nx
      have NU36 := U36.nx
      refine L_st _ rfl rfl rfl kr kr (e36) (L_nil (W_drawn kr (D_e (e := 13) (l := [0,1,2,3,4,5,6,7,8,9,10,11,12]) (s' := []) kr kr rfl kr Rk_nil (NS_b 3 kr (NS_ld _ rfl rfl kr kr kr ((I.sm T36 hF).cl.ld (o := 5) kr rfl) (NS_b 2 kr (NS_ld _ rfl rfl kr kr kr (c34.ld (o := 1) kr rfl) (NS_b 1 kr (NS_ld _ rfl rfl kr kr kr (c34.ld (o := 3) kr rfl) (NS_b 4 kr (NS_nil ?_)))))))))))
      obtain ⟨h37, e37, m37, t37, n37⟩ := (hs.sm U36 (fun e => by first | (have e : _ = _ := e; omega) | (rcases e with e | e | e <;> first | omega | exact hX.lo _ _ e (.inl (by omega))) | (rcases e with e | e <;> omega)) (fun _ _ e => e)).update (P := Tryz.prog) uSent kMsg ((p : Int), x.p, x.n) (v := .agg ⟨[nv (p : Int), nv (i : Int)]⟩) (y := ((p : Int), (i : Int))) rfl
      rw [sndI_put hx hk1 hoki (by rw [before_send hk1 hq]; exact hn1)] at m37
      refine L_mu _ rfl rfl rfl kr kr kr (e37) ?_
      replace c32 := c32.sm t37 (fun e => by have e : _ = sb := e; omega)
      have T37 : Sm (SB2 sb mb) h h37 := T36.trans t37 (fun b hb => .inl (.inl hb))
      have N37 := T37.nx
      have U37 : Sm (fun b => b = h31.next ∨ b = sb) h33 h37 := (U36.mono fun b hb => .inl hb).trans t37 (fun b hb => .inl (.inr hb))
      have NU37 := U37.nx
      refine L_nil ⟨rfl, ?_⟩
      refine D_l (l := []) kr kr Rk_nil (NS_nil (W_region (L_i ((i : Int)) (1) (nv ((i + 1 : Nat) : Int)) rfl rfl kr kr rfl (inc_ok (by omega)) (L_g 1 kr (L_nil ?_)))))
      exact ⟨(L p).length - (i + 1), by omega, i + 1, mv, by omega, m37, by rw [rcvI_no hx (by omega)]; exact hr.sm U37 (fun e => by first | (have e : _ = _ := e; omega) | (rcases e with e | e | e <;> first | omega | exact hX.lo _ _ e (.inl (by omega))) | (rcases e with e | e <;> omega)) (fun _ _ e => e), hrb.sm U37 hr.1 (fun e => by first | (have e : _ = _ := e; omega) | (rcases e with e | e | e <;> first | omega | exact hX.lo _ _ e (.inl (by omega))) | (rcases e with e | e <;> omega)), (hX.sm U37 (fun b hb => ⟨(fun e => by first | (have hb : _ = _ := hb; omega) | (rcases hb with hb | hb <;> omega)), .inl (by first | exact .inr hb | exact Or.elim hb .inr (fun e => .inl (by omega)))⟩)).eq (fun no => by rw [metI_no hx (by omega)]), hnd, by rw [take_one hx]; exact okL_snoc hoki hE, rfl, kr, kr, kr, kr, kr, by rw [take_one hx]; rw [cntM_app, if_neg (by omega)]; kernel_rfl, kr, kr, kr, kr, kr, kr, T37, c32⟩
    ·
     have hn1 : ¬ x.k = 1 := of_decide_eq_false hb
     refine W_seq (W_region (L_i (x.k) (2) (.bool (decide (x.k = 2))) rfl rfl kr kr rfl (rfl) (L_g 1 kr (L_nil ?_))))
     refine W_cond (decide (x.k = 2)) kr (fun hb => ?_) (fun hb => ?_)
     ·
      have hk2 : x.k = 2 := of_decide_eq_true hb
      refine W_sg 1 kr (L_ld _ rfl rfl kr (c34.ld (o := 1) kr rfl) (L_g 2 kr (L_ld _ rfl rfl kr (c34.ld (o := 3) kr rfl) (L_g 1 kr (L_nwc [nv 0, nv 0, nv 0] .ptr rfl rfl kr fun h38 c38 t38 n38 => ?_)))))
      replace c32 := c32.ext t38
      have T38 := T35.ext t38
      have U38 : Sm (fun b => b = h31.next) h33 h38 := U35.ext t38
      have N38 := T38.nx
      have NU38 := U38.nx
      obtain ⟨h39, e39, d39, t39, n39⟩ := c38.sA 159 [nv x.p, nv (p : Int), nv x.n]
      replace c32 := c32.sn t39
      replace c38 := d39
      have T39 := T38.tr t39
      have U39 : Sm (fun b => b = h31.next) h33 h39 := U38.tr t39
      have N39 := T39.nx
      have NU39 := U39.nx
      refine L_st _ rfl rfl rfl kr kr (e39) (L_nil (W_seq (W_sg 4 kr (L_want kr (L_ld _ rfl rfl kr (Cl.allN (n := 3) c38 rfl kr) (L_want kr (L_lk _ rfl rfl kr kr (lookRecv (hr.sm U39 (fun e => by first | (have e : _ = _ := e; omega) | (rcases e with e | e | e <;> first | omega | exact hX.lo _ _ e (.inl (by omega))) | (rcases e with e | e <;> omega)) (fun _ _ e => e)) (x.p, (p : Int), x.n)) (L_g 1 kr (L_nil ?_)))))))))
      refine W_cond ((kget (rcvI L p i) (x.p, (p : Int), x.n)).isSome) kr (fun hb => ?_) (fun hb => ?_)
      ·
        rw [rcvI_get] at hb
        refine W_sg 1 kr (L_nil (W_ret ?_))
        repeat first | with_reducible refine then_ret ?_ | with_reducible refine blk_ret ?_
        have hbad : idxB N L = false := by
         refine idxB_bad hlt (okL_bad hx ?_)
         rw [okE_recv hk2 hp0 hp1]
         cases hf : fnd ((L p).take i) 2 x.p x.n with
         | none => rw [hf] at hb; cases hb
         | some j => rfl
        refine done_of (v := .bool false) (.inl rfl) kr ?_
        exact ⟨by rw [hbad], T39, fun hb => by rw [hbad] at hb; cases hb⟩
      ·
        rw [rcvI_get] at hb
        have hE : okE N ((L p).take i) x = true := by
         rw [okE_recv hk2 hp0 hp1]
         cases hf : fnd ((L p).take i) 2 x.p x.n with
         | none => rfl
         | some j => rw [hf] at hb; cases hb
        refine W_skip (W_rg 1 kr (L_ld _ rfl rfl kr (Cl.allN (n := 3) c38 rfl kr) ?_))
        obtain ⟨h40, e40, m40, t40, n40⟩ := (hr.sm U39 (fun e => by first | (have e : _ = _ := e; omega) | (rcases e with e | e | e <;> first | omega | exact hX.lo _ _ e (.inl (by omega))) | (rcases e with e | e <;> omega)) (fun _ _ e => e)).update (P := Tryz.prog) uRecv kMsg (x.p, (p : Int), x.n) (v := .bool true) (y := true) rfl
        have w40 := (hrb.sm U39 hr.1 (fun e => by first | (have e : _ = _ := e; omega) | (rcases e with e | e | e <;> first | omega | exact hX.lo _ _ e (.inl (by omega))) | (rcases e with e | e <;> omega))).update e40
        rw [rcvI_put hx hk2 hb] at m40
        refine L_mu _ rfl rfl rfl kr kr kr (e40) ?_
        replace c32 := c32.sm t40 (fun e => by have e : _ = h.next := e; omega)
        have T40 : Sm (SB2 sb mb) h h40 := T39.trans t40 (fun b hb => .inr (by have hb : _ = _ := hb; omega))
        have N40 := T40.nx
        have U40 : Sm (fun b => b = h31.next ∨ b = h.next) h33 h40 := (U39.mono fun b hb => .inl hb).trans t40 (fun b hb => .inl (.inr hb))
        have NU40 := U40.nx
        refine L_nil (W_region (L_i ((i : Int)) (1) (nv ((i + 1 : Nat) : Int)) rfl rfl kr kr rfl (inc_ok (by omega)) (L_g 1 kr (L_nil ?_))))
        have e31 : cntV N ((L p).take (i + 1)) = cntV N ((L p).take i) := by rw [take_one hx, cntV_no (by omega)]
        rw [← e31] at c32
        exact ⟨(L p).length - (i + 1), by omega, i + 1, mv, by omega, by rw [sndI_no hx (by omega)]; exact hs.sm U40 (fun e => by first | (have e : _ = _ := e; omega) | (rcases e with e | e | e <;> first | omega | exact hX.lo _ _ e (.inl (by omega))) | (rcases e with e | e <;> omega)) (fun _ _ e => e), m40, w40, (hX.sm U40 (fun b hb => ⟨(fun e => by first | (have hb : _ = _ := hb; omega) | (rcases hb with hb | hb <;> omega)), .inl (by first | exact .inr hb | exact Or.elim hb .inr (fun e => .inl (by omega)))⟩)).eq (fun no => by rw [metI_no hx (by omega)]), hnd, by rw [take_one hx]; exact okL_snoc hoki hE, rfl, kr, kr, kr, kr, kr, by rw [take_one hx]; rw [cntM_app, if_neg (by omega)]; kernel_rfl, kr, kr, kr, kr, kr, kr, T40, c32⟩
     ·
      have hn2 : ¬ x.k = 2 := of_decide_eq_false hb
      refine W_seq (W_region (L_i (x.k) (3) (.bool (decide (x.k = 3))) rfl rfl kr kr rfl (rfl) (L_g 1 kr (L_nil ?_))))
      refine W_cond (decide (x.k = 3)) kr (fun hb => ?_) (fun hb => ?_)
      ·
        have hk3 : x.k = 3 := of_decide_eq_true hb
        refine W_seq (W_sg 1 kr (L_ld _ rfl rfl kr (c34.ld (o := 3) kr rfl) (L_g 1 kr (L_i (x.n) (((cntM ((L p).take i) : Nat) : Int)) (.bool (!decide (x.n = ((cntM ((L p).take i) : Nat) : Int)))) rfl rfl kr kr rfl (rfl) (L_nil ?_)))))
        refine W_cond (!decide (x.n = ((cntM ((L p).take i) : Nat) : Int))) kr (fun hb => ?_) (fun hb => ?_)
        ·
         refine W_sg 1 kr (L_nil (W_ret ?_))
         repeat first | with_reducible refine then_ret ?_ | with_reducible refine blk_ret ?_
         have hbad : idxB N L = false := by
          refine idxB_bad hlt (okL_bad hx ?_)
          rw [okE_meet hk3]
          simpa using hb
         refine done_of (v := .bool false) (.inl rfl) kr ?_
         exact ⟨by rw [hbad], T35, fun hb => by rw [hbad] at hb; cases hb⟩
        ·
         have hn3 : x.n = ((cntM ((L p).take i) : Nat) : Int) := by simpa using hb
         have hE : okE N ((L p).take i) x = true := by rw [okE_meet hk3]; simpa using hn3
         refine W_skip (W_sg 1 kr (L_i (((cntM ((L p).take i) : Nat) : Int)) (1) (nv ((cntM ((L p).take i) + 1 : Nat) : Int)) rfl rfl kr kr rfl (inc_ok (by omega)) (L_g 1 kr (L_nil (W_drawn kr (D_e (e := 17) (l := [0,1,2,3,4,5,6,7,8,9,10,11,12,13,14,15,16]) (s' := [0,1,2,3,4,5]) kr kr rfl kr Rk_nil (NS_b 3 kr (NS_ld _ rfl rfl kr kr kr ((I.sm T35 hF).cl.ld (o := 6) kr rfl) (NS_b 1 kr ?_)))))))))
         refine NS_ld _ rfl rfl kr kr kr (c34.ld (o := 3) kr rfl) (NS_b 3 kr (NS_ld _ rfl rfl kr kr kr ((I.sm T35 hF).cl.ld (o := 6) kr rfl) (NS_b 1 kr (NS_ld _ rfl rfl kr kr kr (c34.ld (o := 3) kr rfl) (NS_lk _ rfl rfl kr kr kr kr (MX.look uMeets kNum zSteps (hX.sm U35 (fun b hb => ⟨(fun e => by have hb : _ = _ := hb; omega), .inl (.inr hb)⟩)) x.n) (NS_b 3 kr (NS_nwc [nv (p : Int), nv (i : Int)] (.sl 1 1) rfl kr rfl rfl kr (Rk_1 rfl rfl (Rk_1 rfl rfl (Rk_1 rfl rfl (Rk_ld _ rfl rfl rfl kr ((I.sm (T35.ext (.push h35 _)) hF).cl.ld (o := 6) kr rfl) kr (Rk_1 rfl rfl (Rk_ld _ rfl rfl rfl kr ((c34.ext (.push h35 _)).ld (o := 3) kr rfl) kr (Rk_1 rfl rfl (Rk_1 rfl rfl (Rk_1 rfl rfl (Rk_ld _ rfl rfl rfl kr ((I.sm (T35.ext (.push h35 _)) hF).cl.ld (o := 6) kr rfl) kr (Rk_1 rfl rfl (Rk_ld _ rfl rfl rfl kr ((c34.ext (.push h35 _)).ld (o := 3) kr rfl) kr (Rk_lk _ rfl rfl rfl kr kr (MX.look uMeets kNum zSteps (hX.sm (U35.ext (.push h35 _)) (fun b hb => ⟨(fun e => by have hb : _ = _ := hb; omega), .inl (.inr hb)⟩)) x.n) kr (Rk_1 rfl rfl (Rk_1 rfl rfl (Rk_1 rfl rfl (Rk_1 rfl rfl Rk_nil))))))))))))))))) fun h41 c41 t41 n41 => ?_)))))))
         replace c32 := c32.ext t41
         replace c34 := c34.ext t41
         have T41 := T35.ext t41
         have U41 : Sm (fun b => b = h31.next) h33 h41 := U35.ext t41
         have N41 := T41.nx
         have NU41 := U41.nx
         refine NS_nil ?_
         obtain ⟨v42, h42, g42, e42, f42, s42, X42, r42, q42, n42⟩ := MX.app (P := Tryz.prog) (MT := 88) (ST := 32) (el := 91) (z := .agg ⟨[nv 0, nv 0]⟩) uMeets kNum kr kr kr kr kr kr kr (hX.sm U41 (fun b hb => ⟨(fun e => by have hb : _ = _ := hb; omega), .inl (.inr hb)⟩)) .refl (u := .slice (some ⟨h35.next, 0, none⟩) 1 1) (e := (p, i)) (Cl.sdK (by decide) c41 rfl) x.n hml
         refine L_bi v42 h42 rfl rfl kr (vs := [mvV mv x.n, .slice (some ⟨h35.next, 0, none⟩) 1 1]) kr (bi_append e42) ?_
         replace c32 := c32.sm s42 (fun hb => by first | exact hX.lo _ _ hb (.inr rfl) | (have := hX.lay.lt hb; omega))
         replace c34 := c34.sm s42 (fun hb => by first | exact hX.lo _ _ hb (.inr rfl) | (have := hX.lay.lt hb; omega))
         have T42 : Sm (SB2 sb mb) h h42 := T41.trans s42 (fun b hb => .inr (by have := hX.lo _ b hb; omega))
         have N42 := T42.nx
         have U42 : Sm (fun b => b = h31.next ∨ b = mb ∨ vb (mvV mv x.n) = some b) h33 h42 := (U41.mono fun b hb => .inl hb).trans s42 (fun b hb => .inl (.inr (.inr hb)))
         have NU42 := U42.nx
         refine L_nil ⟨rfl, ?_⟩
         refine D_e (e := 18) (l := []) (s' := []) kr kr rfl kr (Rk_1 rfl rfl (Rk_1 rfl rfl (Rk_1 rfl rfl (Rk_ld _ rfl rfl rfl kr ((I.sm T42 hF).cl.ld (o := 6) kr rfl) kr (Rk_1 rfl rfl (Rk_ld _ rfl rfl rfl kr (c34.ld (o := 3) kr rfl) kr Rk_nil)))))) (NS_nil ?_)
         have e43 := f42
         have t43 := q42
         generalize g42 = h43 at e43 t43 X42
         refine L_mu _ rfl rfl rfl kr kr kr (e43) ?_
         replace c32 := c32.sm t43 (fun e => by have e : _ = mb := e; omega)
         have T43 : Sm (SB2 sb mb) h h43 := T42.trans t43 (fun b hb => .inl (.inr hb))
         have N43 := T43.nx
         have U43 : Sm (fun b => b = h31.next ∨ b = mb ∨ vb (mvV mv x.n) = some b) h33 h43 := U42.trans t43 (fun b hb => .inl (.inr (.inl hb)))
         have NU43 := U43.nx
         refine L_nil ⟨rfl, ?_⟩
         refine D_l (l := []) kr kr Rk_nil (NS_nil (W_region (L_i ((i : Int)) (1) (nv ((i + 1 : Nat) : Int)) rfl rfl kr kr rfl (inc_ok (by omega)) (L_g 1 kr (L_nil ?_)))))
         have e31 : cntV N ((L p).take (i + 1)) = cntV N ((L p).take i) := by rw [take_one hx, cntV_no (by omega)]
         rw [← e31] at c32
         exact ⟨(L p).length - (i + 1), by omega, i + 1, (kset mv x.n v42), by omega, by rw [sndI_no hx (by omega)]; exact hs.sm U43 (fun e => by first | (have e : _ = _ := e; omega) | (rcases e with e | e | e <;> first | omega | exact hX.lo _ _ e (.inl (by omega))) | (rcases e with e | e <;> omega)) (fun _ _ e => e), by rw [rcvI_no hx (by omega)]; exact hr.sm U43 (fun e => by first | (have e : _ = _ := e; omega) | (rcases e with e | e | e <;> first | omega | exact hX.lo _ _ e (.inl (by omega))) | (rcases e with e | e <;> omega)) (fun _ _ e => e), hrb.sm U43 hr.1 (fun e => by first | (have e : _ = _ := e; omega) | (rcases e with e | e | e <;> first | omega | exact hX.lo _ _ e (.inl (by omega))) | (rcases e with e | e <;> omega)), X42.eq (fun no => metI_next (N := N) hx hk3 hoki (by rw [before_meet hk3]; exact hn3) no), kset_nodup _ _ _ hnd, by rw [take_one hx]; exact okL_snoc hoki hE, rfl, kr, kr, kr, kr, kr, by rw [take_one hx]; rw [cntM_app, if_pos hk3]; kernel_rfl, kr, kr, kr, kr, kr, kr, T43, c32⟩
      ·
        have hn3 : ¬ x.k = 3 := of_decide_eq_false hb
        refine W_seq (W_region (L_i (x.k) (4) (.bool (decide (x.k = 4))) rfl rfl kr kr rfl (rfl) (L_g 1 kr (L_nil ?_))))
        refine W_cond (decide (x.k = 4)) kr (fun hb => ?_) (fun hb => ?_)
        ·
         have hk4 : x.k = 4 := of_decide_eq_true hb
         refine W_seq ?_
         by_cases hv0 : x.v < 0
         ·
          refine W_rg 1 kr (L_ld _ rfl rfl kr (c34.ld (o := 4) kr rfl) (L_i (x.v) (0) (.bool true) rfl rfl kr kr rfl (by first | (simp; done) | (simp; omega)) (L_g 5 kr (L_nil ?_))))
          refine W_cond true kr (fun _ => ?_) (fun e => by cases e)
          refine W_sg 1 kr (L_nil (W_ret ?_))
          repeat first | with_reducible refine then_ret ?_ | with_reducible refine blk_ret ?_
          have hbad : idxB N L = false := by
           refine idxB_bad hlt (okL_bad hx ?_)
           rw [okE_work hk4]
           try simp at hb
           simp
           omega
          refine done_of (v := .bool false) (.inl rfl) kr ?_
          exact ⟨by rw [hbad], T35, fun hb => by rw [hbad] at hb; cases hb⟩
         ·
          refine W_rg 1 kr (L_ld _ rfl rfl kr (c34.ld (o := 4) kr rfl) (L_i (x.v) (0) (.bool false) rfl rfl kr kr rfl (by simp; omega) (L_g 2 kr (L_want kr (L_ld _ rfl rfl kr (c34.ld (o := 4) kr rfl) (L_want kr (L_i (x.v) (1048576) (.bool (decide (1048576 < x.v))) rfl rfl kr kr rfl (rfl) (L_g 1 kr (L_nil ?_)))))))))
          refine W_cond (decide (1048576 < x.v)) kr (fun hb => ?_) (fun hb => ?_)
          ·
           refine W_sg 1 kr (L_nil (W_ret ?_))
           repeat first | with_reducible refine then_ret ?_ | with_reducible refine blk_ret ?_
           have hbad : idxB N L = false := by
            refine idxB_bad hlt (okL_bad hx ?_)
            rw [okE_work hk4]
            simp at hb ⊢
            omega
           refine done_of (v := .bool false) (.inl rfl) kr ?_
           exact ⟨by rw [hbad], T35, fun hb => by rw [hbad] at hb; cases hb⟩
          ·
           have hE : okE N ((L p).take i) x = true := by rw [okE_work hk4]; simp at hb ⊢; omega
           refine W_skip (W_region (L_i ((i : Int)) (1) (nv ((i + 1 : Nat) : Int)) rfl rfl kr kr rfl (inc_ok (by omega)) (L_g 1 kr (L_nil ?_))))
           have e31 : cntV N ((L p).take (i + 1)) = cntV N ((L p).take i) := by rw [take_one hx, cntV_no (by omega)]
           rw [← e31] at c32
           exact ⟨(L p).length - (i + 1), by omega, i + 1, mv, by omega, by rw [sndI_no hx (by omega)]; exact hs.sm U35 (fun e => by first | (have e : _ = _ := e; omega) | (rcases e with e | e | e <;> first | omega | exact hX.lo _ _ e (.inl (by omega))) | (rcases e with e | e <;> omega)) (fun _ _ e => e), by rw [rcvI_no hx (by omega)]; exact hr.sm U35 (fun e => by first | (have e : _ = _ := e; omega) | (rcases e with e | e | e <;> first | omega | exact hX.lo _ _ e (.inl (by omega))) | (rcases e with e | e <;> omega)) (fun _ _ e => e), hrb.sm U35 hr.1 (fun e => by first | (have e : _ = _ := e; omega) | (rcases e with e | e | e <;> first | omega | exact hX.lo _ _ e (.inl (by omega))) | (rcases e with e | e <;> omega)), (hX.sm U35 (fun b hb => ⟨(fun e => by first | (have hb : _ = _ := hb; omega) | (rcases hb with hb | hb <;> omega)), .inl (by first | exact .inr hb | exact Or.elim hb .inr (fun e => .inl (by omega)))⟩)).eq (fun no => by rw [metI_no hx (by omega)]), hnd, by rw [take_one hx]; exact okL_snoc hoki hE, rfl, kr, kr, kr, kr, kr, by rw [take_one hx]; rw [cntM_app, if_neg (by omega)]; kernel_rfl, kr, kr, kr, kr, kr, kr, T35, c32⟩
        ·
         have hn4 : ¬ x.k = 4 := of_decide_eq_false hb
         refine W_sg 1 kr (L_nil (W_ret ?_))
         repeat first | with_reducible refine then_ret ?_ | with_reducible refine blk_ret ?_
         have hbad : idxB N L = false := by
          refine idxB_bad hlt (okL_bad hx ?_)
          exact okE_none hn1 hn2 hn3 hn4
         refine done_of (v := .bool false) (.inl rfl) kr ?_
         exact ⟨by rw [hbad], T35, fun hb => by rw [hbad] at hb; cases hb⟩
   ·
    refine W_drawn kr (D_l (l := [0,1,2,3,4,5,6,7,8,9,10,11,12,13]) kr kr Rk_nil (NS_b 1 kr (NS_ld _ rfl rfl kr kr kr (c34.ld (o := 1) kr rfl) (NS_i (x.p) (0) (.bool true) rfl rfl kr kr kr kr rfl (by first | (simp; done) | (simp; omega)) (NS_b 2 kr (NS_ld _ rfl rfl kr kr kr (c34.ld (o := 1) kr rfl) (NS_b 3 kr (NS_ld _ rfl rfl kr kr kr ((I.sm T35 hF).cl.ld (o := 0) kr rfl) (NS_ln _ rfl rfl kr kr kr ((I.sm T35 hF).inp.len (T := 26) (el := 28) kr) (NS_i (x.p) ((N : Int)) (.bool false) rfl rfl kr kr kr kr rfl (by first | (simp; done) | (simp; omega)) (NS_b 2 kr ?_)))))))))))
    refine NS_nil (W_sg 1 kr (L_ld _ rfl rfl kr (c34.ld (o := 0) kr rfl) (L_nil (W_block (W_seq (W_region (L_i (x.k) (1) (.bool (decide (x.k = 1))) rfl rfl kr kr rfl (rfl) (L_g 1 kr (L_nil ?_)))))))))
    refine W_cond (decide (x.k = 1)) kr (fun hb => ?_) (fun hb => ?_)
    ·
     have hk1 : x.k = 1 := of_decide_eq_true hb
     refine W_seq (W_seq (W_drawn kr (D_l (l := [0,1,2,3,4,5,6,7,8,9,10,11]) kr kr Rk_nil (NS_b 12 kr (NS_nil ?_)))))
     refine W_cond true kr (fun _ => ?_) (fun e => by cases e)
     refine W_sg 1 kr (L_nil (W_ret ?_))
     repeat first | with_reducible refine then_ret ?_ | with_reducible refine blk_ret ?_
     have hbad : idxB N L = false := by
      refine idxB_bad hlt (okL_bad hx ?_)
      exact okE_peer (.inl hk1) (by omega)
     refine done_of (v := .bool false) (.inl rfl) kr ?_
     exact ⟨by rw [hbad], T35, fun hb => by rw [hbad] at hb; cases hb⟩
    ·
     have hn1 : ¬ x.k = 1 := of_decide_eq_false hb
     refine W_seq (W_region (L_i (x.k) (2) (.bool (decide (x.k = 2))) rfl rfl kr kr rfl (rfl) (L_g 1 kr (L_nil ?_))))
     refine W_cond (decide (x.k = 2)) kr (fun hb => ?_) (fun hb => ?_)
     ·
      have hk2 : x.k = 2 := of_decide_eq_true hb
      refine W_sg 1 kr (L_ld _ rfl rfl kr (c34.ld (o := 1) kr rfl) (L_g 2 kr (L_ld _ rfl rfl kr (c34.ld (o := 3) kr rfl) (L_g 1 kr (L_nwc [nv 0, nv 0, nv 0] .ptr rfl rfl kr fun h44 c44 t44 n44 => ?_)))))
      have T44 := T35.ext t44
      have U44 : Sm (fun b => b = h31.next) h33 h44 := U35.ext t44
      have N44 := T44.nx
      have NU44 := U44.nx
      obtain ⟨h45, e45, d45, t45, n45⟩ := c44.sA 159 [nv x.p, nv (p : Int), nv x.n]
      replace c44 := d45
      have T45 := T44.tr t45
      have U45 : Sm (fun b => b = h31.next) h33 h45 := U44.tr t45
      have N45 := T45.nx
      have NU45 := U45.nx
      refine L_st _ rfl rfl rfl kr kr (e45) (L_nil (W_seq (W_sg 7 kr (L_nil ?_))))
      refine W_cond true kr (fun _ => ?_) (fun e => by cases e)
      refine W_sg 1 kr (L_nil (W_ret ?_))
      repeat first | with_reducible refine then_ret ?_ | with_reducible refine blk_ret ?_
      have hbad : idxB N L = false := by
        refine idxB_bad hlt (okL_bad hx ?_)
        exact okE_peer (.inr hk2) (by omega)
      refine done_of (v := .bool false) (.inl rfl) kr ?_
      exact ⟨by rw [hbad], T45, fun hb => by rw [hbad] at hb; cases hb⟩
     ·
      have hn2 : ¬ x.k = 2 := of_decide_eq_false hb
      refine W_seq (W_region (L_i (x.k) (3) (.bool (decide (x.k = 3))) rfl rfl kr kr rfl (rfl) (L_g 1 kr (L_nil ?_))))
      refine W_cond (decide (x.k = 3)) kr (fun hb => ?_) (fun hb => ?_)
      ·
        have hk3 : x.k = 3 := of_decide_eq_true hb
        refine W_seq (W_sg 1 kr (L_ld _ rfl rfl kr (c34.ld (o := 3) kr rfl) (L_g 1 kr (L_i (x.n) (((cntM ((L p).take i) : Nat) : Int)) (.bool (!decide (x.n = ((cntM ((L p).take i) : Nat) : Int)))) rfl rfl kr kr rfl (rfl) (L_nil ?_)))))
        refine W_cond (!decide (x.n = ((cntM ((L p).take i) : Nat) : Int))) kr (fun hb => ?_) (fun hb => ?_)
        ·
         refine W_sg 1 kr (L_nil (W_ret ?_))
         repeat first | with_reducible refine then_ret ?_ | with_reducible refine blk_ret ?_
         have hbad : idxB N L = false := by
          refine idxB_bad hlt (okL_bad hx ?_)
          rw [okE_meet hk3]
          simpa using hb
         refine done_of (v := .bool false) (.inl rfl) kr ?_
         exact ⟨by rw [hbad], T35, fun hb => by rw [hbad] at hb; cases hb⟩
        ·
         have hn3 : x.n = ((cntM ((L p).take i) : Nat) : Int) := by simpa using hb
         have hE : okE N ((L p).take i) x = true := by rw [okE_meet hk3]; simpa using hn3
         refine W_skip (W_sg 1 kr (L_i (((cntM ((L p).take i) : Nat) : Int)) (1) (nv ((cntM ((L p).take i) + 1 : Nat) : Int)) rfl rfl kr kr rfl (inc_ok (by omega)) (L_g 1 kr (L_nil (W_drawn kr (D_e (e := 17) (l := [0,1,2,3,4,5,6,7,8,9,10,11,12,13,14,15,16]) (s' := [0,1,2,3,4,5]) kr kr rfl kr Rk_nil (NS_b 3 kr (NS_ld _ rfl rfl kr kr kr ((I.sm T35 hF).cl.ld (o := 6) kr rfl) (NS_b 1 kr ?_)))))))))
         refine NS_ld _ rfl rfl kr kr kr (c34.ld (o := 3) kr rfl) (NS_b 3 kr (NS_ld _ rfl rfl kr kr kr ((I.sm T35 hF).cl.ld (o := 6) kr rfl) (NS_b 1 kr (NS_ld _ rfl rfl kr kr kr (c34.ld (o := 3) kr rfl) (NS_lk _ rfl rfl kr kr kr kr (MX.look uMeets kNum zSteps (hX.sm U35 (fun b hb => ⟨(fun e => by have hb : _ = _ := hb; omega), .inl (.inr hb)⟩)) x.n) (NS_b 3 kr (NS_nwc [nv (p : Int), nv (i : Int)] (.sl 1 1) rfl kr rfl rfl kr (Rk_1 rfl rfl (Rk_1 rfl rfl (Rk_1 rfl rfl (Rk_ld _ rfl rfl rfl kr ((I.sm (T35.ext (.push h35 _)) hF).cl.ld (o := 6) kr rfl) kr (Rk_1 rfl rfl (Rk_ld _ rfl rfl rfl kr ((c34.ext (.push h35 _)).ld (o := 3) kr rfl) kr (Rk_1 rfl rfl (Rk_1 rfl rfl (Rk_1 rfl rfl (Rk_ld _ rfl rfl rfl kr ((I.sm (T35.ext (.push h35 _)) hF).cl.ld (o := 6) kr rfl) kr (Rk_1 rfl rfl (Rk_ld _ rfl rfl rfl kr ((c34.ext (.push h35 _)).ld (o := 3) kr rfl) kr (Rk_lk _ rfl rfl rfl kr kr (MX.look uMeets kNum zSteps (hX.sm (U35.ext (.push h35 _)) (fun b hb => ⟨(fun e => by have hb : _ = _ := hb; omega), .inl (.inr hb)⟩)) x.n) kr (Rk_1 rfl rfl (Rk_1 rfl rfl (Rk_1 rfl rfl (Rk_1 rfl rfl Rk_nil))))))))))))))))) fun h46 c46 t46 n46 => ?_)))))))
         replace c32 := c32.ext t46
         replace c34 := c34.ext t46
         have T46 := T35.ext t46
         have U46 : Sm (fun b => b = h31.next) h33 h46 := U35.ext t46
         have N46 := T46.nx
         have NU46 := U46.nx
         refine NS_nil ?_
         obtain ⟨v47, h47, g47, e47, f47, s47, X47, r47, q47, n47⟩ := MX.app (P := Tryz.prog) (MT := 88) (ST := 32) (el := 91) (z := .agg ⟨[nv 0, nv 0]⟩) uMeets kNum kr kr kr kr kr kr kr (hX.sm U46 (fun b hb => ⟨(fun e => by have hb : _ = _ := hb; omega), .inl (.inr hb)⟩)) .refl (u := .slice (some ⟨h35.next, 0, none⟩) 1 1) (e := (p, i)) (Cl.sdK (by decide) c46 rfl) x.n hml
         refine L_bi v47 h47 rfl rfl kr (vs := [mvV mv x.n, .slice (some ⟨h35.next, 0, none⟩) 1 1]) kr (bi_append e47) ?_
         replace c32 := c32.sm s47 (fun hb => by first | exact hX.lo _ _ hb (.inr rfl) | (have := hX.lay.lt hb; omega))
         replace c34 := c34.sm s47 (fun hb => by first | exact hX.lo _ _ hb (.inr rfl) | (have := hX.lay.lt hb; omega))
         have T47 : Sm (SB2 sb mb) h h47 := T46.trans s47 (fun b hb => .inr (by have := hX.lo _ b hb; omega))
         have N47 := T47.nx
         have U47 : Sm (fun b => b = h31.next ∨ b = mb ∨ vb (mvV mv x.n) = some b) h33 h47 := (U46.mono fun b hb => .inl hb).trans s47 (fun b hb => .inl (.inr (.inr hb)))
         have NU47 := U47.nx
         refine L_nil ⟨rfl, ?_⟩
         refine D_e (e := 18) (l := []) (s' := []) kr kr rfl kr (Rk_1 rfl rfl (Rk_1 rfl rfl (Rk_1 rfl rfl (Rk_ld _ rfl rfl rfl kr ((I.sm T47 hF).cl.ld (o := 6) kr rfl) kr (Rk_1 rfl rfl (Rk_ld _ rfl rfl rfl kr (c34.ld (o := 3) kr rfl) kr Rk_nil)))))) (NS_nil ?_)
         have e48 := f47
         have t48 := q47
         generalize g47 = h48 at e48 t48 X47
         refine L_mu _ rfl rfl rfl kr kr kr (e48) ?_
         replace c32 := c32.sm t48 (fun e => by have e : _ = mb := e; omega)
         have T48 : Sm (SB2 sb mb) h h48 := T47.trans t48 (fun b hb => .inl (.inr hb))
         have N48 := T48.nx
         have U48 : Sm (fun b => b = h31.next ∨ b = mb ∨ vb (mvV mv x.n) = some b) h33 h48 := U47.trans t48 (fun b hb => .inl (.inr (.inl hb)))
         have NU48 := U48.nx
         refine L_nil ⟨rfl, ?_⟩
         refine D_l (l := []) kr kr Rk_nil (NS_nil (W_region (L_i ((i : Int)) (1) (nv ((i + 1 : Nat) : Int)) rfl rfl kr kr rfl (inc_ok (by omega)) (L_g 1 kr (L_nil ?_)))))
         have e31 : cntV N ((L p).take (i + 1)) = cntV N ((L p).take i) := by rw [take_one hx, cntV_no (by omega)]
         rw [← e31] at c32
         exact ⟨(L p).length - (i + 1), by omega, i + 1, (kset mv x.n v47), by omega, by rw [sndI_no hx (by omega)]; exact hs.sm U48 (fun e => by first | (have e : _ = _ := e; omega) | (rcases e with e | e | e <;> first | omega | exact hX.lo _ _ e (.inl (by omega))) | (rcases e with e | e <;> omega)) (fun _ _ e => e), by rw [rcvI_no hx (by omega)]; exact hr.sm U48 (fun e => by first | (have e : _ = _ := e; omega) | (rcases e with e | e | e <;> first | omega | exact hX.lo _ _ e (.inl (by omega))) | (rcases e with e | e <;> omega)) (fun _ _ e => e), hrb.sm U48 hr.1 (fun e => by first | (have e : _ = _ := e; omega) | (rcases e with e | e | e <;> first | omega | exact hX.lo _ _ e (.inl (by omega))) | (rcases e with e | e <;> omega)), X47.eq (fun no => metI_next (N := N) hx hk3 hoki (by rw [before_meet hk3]; exact hn3) no), kset_nodup _ _ _ hnd, by rw [take_one hx]; exact okL_snoc hoki hE, rfl, kr, kr, kr, kr, kr, by rw [take_one hx]; rw [cntM_app, if_pos hk3]; kernel_rfl, kr, kr, kr, kr, kr, kr, T48, c32⟩
      ·
        have hn3 : ¬ x.k = 3 := of_decide_eq_false hb
        refine W_seq (W_region (L_i (x.k) (4) (.bool (decide (x.k = 4))) rfl rfl kr kr rfl (rfl) (L_g 1 kr (L_nil ?_))))
        refine W_cond (decide (x.k = 4)) kr (fun hb => ?_) (fun hb => ?_)
        ·
         have hk4 : x.k = 4 := of_decide_eq_true hb
         refine W_seq ?_
         by_cases hv0 : x.v < 0
         ·
          refine W_rg 1 kr (L_ld _ rfl rfl kr (c34.ld (o := 4) kr rfl) (L_i (x.v) (0) (.bool true) rfl rfl kr kr rfl (by first | (simp; done) | (simp; omega)) (L_g 5 kr (L_nil ?_))))
          refine W_cond true kr (fun _ => ?_) (fun e => by cases e)
          refine W_sg 1 kr (L_nil (W_ret ?_))
          repeat first | with_reducible refine then_ret ?_ | with_reducible refine blk_ret ?_
          have hbad : idxB N L = false := by
           refine idxB_bad hlt (okL_bad hx ?_)
           rw [okE_work hk4]
           try simp at hb
           simp
           omega
          refine done_of (v := .bool false) (.inl rfl) kr ?_
          exact ⟨by rw [hbad], T35, fun hb => by rw [hbad] at hb; cases hb⟩
         ·
          refine W_rg 1 kr (L_ld _ rfl rfl kr (c34.ld (o := 4) kr rfl) (L_i (x.v) (0) (.bool false) rfl rfl kr kr rfl (by simp; omega) (L_g 2 kr (L_want kr (L_ld _ rfl rfl kr (c34.ld (o := 4) kr rfl) (L_want kr (L_i (x.v) (1048576) (.bool (decide (1048576 < x.v))) rfl rfl kr kr rfl (rfl) (L_g 1 kr (L_nil ?_)))))))))
          refine W_cond (decide (1048576 < x.v)) kr (fun hb => ?_) (fun hb => ?_)
          ·
           refine W_sg 1 kr (L_nil (W_ret ?_))
           repeat first | with_reducible refine then_ret ?_ | with_reducible refine blk_ret ?_
           have hbad : idxB N L = false := by
            refine idxB_bad hlt (okL_bad hx ?_)
            rw [okE_work hk4]
            simp at hb ⊢
            omega
           refine done_of (v := .bool false) (.inl rfl) kr ?_
           exact ⟨by rw [hbad], T35, fun hb => by rw [hbad] at hb; cases hb⟩
          ·
           have hE : okE N ((L p).take i) x = true := by rw [okE_work hk4]; simp at hb ⊢; omega
           refine W_skip (W_region (L_i ((i : Int)) (1) (nv ((i + 1 : Nat) : Int)) rfl rfl kr kr rfl (inc_ok (by omega)) (L_g 1 kr (L_nil ?_))))
           have e31 : cntV N ((L p).take (i + 1)) = cntV N ((L p).take i) := by rw [take_one hx, cntV_no (by omega)]
           rw [← e31] at c32
           exact ⟨(L p).length - (i + 1), by omega, i + 1, mv, by omega, by rw [sndI_no hx (by omega)]; exact hs.sm U35 (fun e => by first | (have e : _ = _ := e; omega) | (rcases e with e | e | e <;> first | omega | exact hX.lo _ _ e (.inl (by omega))) | (rcases e with e | e <;> omega)) (fun _ _ e => e), by rw [rcvI_no hx (by omega)]; exact hr.sm U35 (fun e => by first | (have e : _ = _ := e; omega) | (rcases e with e | e | e <;> first | omega | exact hX.lo _ _ e (.inl (by omega))) | (rcases e with e | e <;> omega)) (fun _ _ e => e), hrb.sm U35 hr.1 (fun e => by first | (have e : _ = _ := e; omega) | (rcases e with e | e | e <;> first | omega | exact hX.lo _ _ e (.inl (by omega))) | (rcases e with e | e <;> omega)), (hX.sm U35 (fun b hb => ⟨(fun e => by first | (have hb : _ = _ := hb; omega) | (rcases hb with hb | hb <;> omega)), .inl (by first | exact .inr hb | exact Or.elim hb .inr (fun e => .inl (by omega)))⟩)).eq (fun no => by rw [metI_no hx (by omega)]), hnd, by rw [take_one hx]; exact okL_snoc hoki hE, rfl, kr, kr, kr, kr, kr, by rw [take_one hx]; rw [cntM_app, if_neg (by omega)]; kernel_rfl, kr, kr, kr, kr, kr, kr, T35, c32⟩
        ·
         have hn4 : ¬ x.k = 4 := of_decide_eq_false hb
         refine W_sg 1 kr (L_nil (W_ret ?_))
         repeat first | with_reducible refine then_ret ?_ | with_reducible refine blk_ret ?_
         have hbad : idxB N L = false := by
          refine idxB_bad hlt (okL_bad hx ?_)
          exact okE_none hn1 hn2 hn3 hn4
         refine done_of (v := .bool false) (.inl rfl) kr ?_
         exact ⟨by rw [hbad], T35, fun hb => by rw [hbad] at hb; cases hb⟩
   ·
    refine W_drawn kr (D_l (l := [0,1,2,3,4,5,6,7,8,9,10,11,12,13]) kr kr Rk_nil (NS_b 1 kr (NS_ld _ rfl rfl kr kr kr (c34.ld (o := 1) kr rfl) (NS_i (x.p) (0) (.bool false) rfl rfl kr kr kr kr rfl (by simp; omega) (NS_b 11 kr (NS_nil (W_sg 1 kr (L_ld _ rfl rfl kr (c34.ld (o := 0) kr rfl) (L_nil ?_)))))))))
    refine W_block (W_seq (W_region (L_i (x.k) (1) (.bool (decide (x.k = 1))) rfl rfl kr kr rfl (rfl) (L_g 1 kr (L_nil ?_)))))
    refine W_cond (decide (x.k = 1)) kr (fun hb => ?_) (fun hb => ?_)
    ·
     have hk1 : x.k = 1 := of_decide_eq_true hb
     refine W_seq (W_seq (W_drawn kr (D_l (l := [0,1,2,3,4,5,6,7,8,9,10,11]) kr kr Rk_nil (NS_b 12 kr (NS_nil ?_)))))
     refine W_cond true kr (fun _ => ?_) (fun e => by cases e)
     refine W_sg 1 kr (L_nil (W_ret ?_))
     repeat first | with_reducible refine then_ret ?_ | with_reducible refine blk_ret ?_
     have hbad : idxB N L = false := by
      refine idxB_bad hlt (okL_bad hx ?_)
      exact okE_peer (.inl hk1) (by omega)
     refine done_of (v := .bool false) (.inl rfl) kr ?_
     exact ⟨by rw [hbad], T35, fun hb => by rw [hbad] at hb; cases hb⟩
    ·
     have hn1 : ¬ x.k = 1 := of_decide_eq_false hb
     refine W_seq (W_region (L_i (x.k) (2) (.bool (decide (x.k = 2))) rfl rfl kr kr rfl (rfl) (L_g 1 kr (L_nil ?_))))
     refine W_cond (decide (x.k = 2)) kr (fun hb => ?_) (fun hb => ?_)
     ·
      have hk2 : x.k = 2 := of_decide_eq_true hb
      refine W_sg 1 kr (L_ld _ rfl rfl kr (c34.ld (o := 1) kr rfl) (L_g 2 kr (L_ld _ rfl rfl kr (c34.ld (o := 3) kr rfl) (L_g 1 kr (L_nwc [nv 0, nv 0, nv 0] .ptr rfl rfl kr fun h49 c49 t49 n49 => ?_)))))
      have T49 := T35.ext t49
      have U49 : Sm (fun b => b = h31.next) h33 h49 := U35.ext t49
      have N49 := T49.nx
      have NU49 := U49.nx
      obtain ⟨h50, e50, d50, t50, n50⟩ := c49.sA 159 [nv x.p, nv (p : Int), nv x.n]
      replace c49 := d50
      have T50 := T49.tr t50
      have U50 : Sm (fun b => b = h31.next) h33 h50 := U49.tr t50
      have N50 := T50.nx
      have NU50 := U50.nx
      refine L_st _ rfl rfl rfl kr kr (e50) (L_nil (W_seq (W_sg 7 kr (L_nil ?_))))
      refine W_cond true kr (fun _ => ?_) (fun e => by cases e)
      refine W_sg 1 kr (L_nil (W_ret ?_))
      repeat first | with_reducible refine then_ret ?_ | with_reducible refine blk_ret ?_
      have hbad : idxB N L = false := by
        refine idxB_bad hlt (okL_bad hx ?_)
        exact okE_peer (.inr hk2) (by omega)
      refine done_of (v := .bool false) (.inl rfl) kr ?_
      exact ⟨by rw [hbad], T50, fun hb => by rw [hbad] at hb; cases hb⟩
     ·
      have hn2 : ¬ x.k = 2 := of_decide_eq_false hb
      refine W_seq (W_region (L_i (x.k) (3) (.bool (decide (x.k = 3))) rfl rfl kr kr rfl (rfl) (L_g 1 kr (L_nil ?_))))
      refine W_cond (decide (x.k = 3)) kr (fun hb => ?_) (fun hb => ?_)
      ·
        have hk3 : x.k = 3 := of_decide_eq_true hb
        refine W_seq (W_sg 1 kr (L_ld _ rfl rfl kr (c34.ld (o := 3) kr rfl) (L_g 1 kr (L_i (x.n) (((cntM ((L p).take i) : Nat) : Int)) (.bool (!decide (x.n = ((cntM ((L p).take i) : Nat) : Int)))) rfl rfl kr kr rfl (rfl) (L_nil ?_)))))
        refine W_cond (!decide (x.n = ((cntM ((L p).take i) : Nat) : Int))) kr (fun hb => ?_) (fun hb => ?_)
        ·
         refine W_sg 1 kr (L_nil (W_ret ?_))
         repeat first | with_reducible refine then_ret ?_ | with_reducible refine blk_ret ?_
         have hbad : idxB N L = false := by
          refine idxB_bad hlt (okL_bad hx ?_)
          rw [okE_meet hk3]
          simpa using hb
         refine done_of (v := .bool false) (.inl rfl) kr ?_
         exact ⟨by rw [hbad], T35, fun hb => by rw [hbad] at hb; cases hb⟩
        ·
         have hn3 : x.n = ((cntM ((L p).take i) : Nat) : Int) := by simpa using hb
         have hE : okE N ((L p).take i) x = true := by rw [okE_meet hk3]; simpa using hn3
         refine W_skip (W_sg 1 kr (L_i (((cntM ((L p).take i) : Nat) : Int)) (1) (nv ((cntM ((L p).take i) + 1 : Nat) : Int)) rfl rfl kr kr rfl (inc_ok (by omega)) (L_g 1 kr (L_nil (W_drawn kr (D_e (e := 17) (l := [0,1,2,3,4,5,6,7,8,9,10,11,12,13,14,15,16]) (s' := [0,1,2,3,4,5]) kr kr rfl kr Rk_nil (NS_b 3 kr (NS_ld _ rfl rfl kr kr kr ((I.sm T35 hF).cl.ld (o := 6) kr rfl) (NS_b 1 kr ?_)))))))))
         refine NS_ld _ rfl rfl kr kr kr (c34.ld (o := 3) kr rfl) (NS_b 3 kr (NS_ld _ rfl rfl kr kr kr ((I.sm T35 hF).cl.ld (o := 6) kr rfl) (NS_b 1 kr (NS_ld _ rfl rfl kr kr kr (c34.ld (o := 3) kr rfl) (NS_lk _ rfl rfl kr kr kr kr (MX.look uMeets kNum zSteps (hX.sm U35 (fun b hb => ⟨(fun e => by have hb : _ = _ := hb; omega), .inl (.inr hb)⟩)) x.n) (NS_b 3 kr (NS_nwc [nv (p : Int), nv (i : Int)] (.sl 1 1) rfl kr rfl rfl kr (Rk_1 rfl rfl (Rk_1 rfl rfl (Rk_1 rfl rfl (Rk_ld _ rfl rfl rfl kr ((I.sm (T35.ext (.push h35 _)) hF).cl.ld (o := 6) kr rfl) kr (Rk_1 rfl rfl (Rk_ld _ rfl rfl rfl kr ((c34.ext (.push h35 _)).ld (o := 3) kr rfl) kr (Rk_1 rfl rfl (Rk_1 rfl rfl (Rk_1 rfl rfl (Rk_ld _ rfl rfl rfl kr ((I.sm (T35.ext (.push h35 _)) hF).cl.ld (o := 6) kr rfl) kr (Rk_1 rfl rfl (Rk_ld _ rfl rfl rfl kr ((c34.ext (.push h35 _)).ld (o := 3) kr rfl) kr (Rk_lk _ rfl rfl rfl kr kr (MX.look uMeets kNum zSteps (hX.sm (U35.ext (.push h35 _)) (fun b hb => ⟨(fun e => by have hb : _ = _ := hb; omega), .inl (.inr hb)⟩)) x.n) kr (Rk_1 rfl rfl (Rk_1 rfl rfl (Rk_1 rfl rfl (Rk_1 rfl rfl Rk_nil))))))))))))))))) fun h51 c51 t51 n51 => ?_)))))))
         replace c32 := c32.ext t51
         replace c34 := c34.ext t51
         have T51 := T35.ext t51
         have U51 : Sm (fun b => b = h31.next) h33 h51 := U35.ext t51
         have N51 := T51.nx
         have NU51 := U51.nx
         refine NS_nil ?_
         obtain ⟨v52, h52, g52, e52, f52, s52, X52, r52, q52, n52⟩ := MX.app (P := Tryz.prog) (MT := 88) (ST := 32) (el := 91) (z := .agg ⟨[nv 0, nv 0]⟩) uMeets kNum kr kr kr kr kr kr kr (hX.sm U51 (fun b hb => ⟨(fun e => by have hb : _ = _ := hb; omega), .inl (.inr hb)⟩)) .refl (u := .slice (some ⟨h35.next, 0, none⟩) 1 1) (e := (p, i)) (Cl.sdK (by decide) c51 rfl) x.n hml
         refine L_bi v52 h52 rfl rfl kr (vs := [mvV mv x.n, .slice (some ⟨h35.next, 0, none⟩) 1 1]) kr (bi_append e52) ?_
         replace c32 := c32.sm s52 (fun hb => by first | exact hX.lo _ _ hb (.inr rfl) | (have := hX.lay.lt hb; omega))
         replace c34 := c34.sm s52 (fun hb => by first | exact hX.lo _ _ hb (.inr rfl) | (have := hX.lay.lt hb; omega))
         have T52 : Sm (SB2 sb mb) h h52 := T51.trans s52 (fun b hb => .inr (by have := hX.lo _ b hb; omega))
         have N52 := T52.nx
         have U52 : Sm (fun b => b = h31.next ∨ b = mb ∨ vb (mvV mv x.n) = some b) h33 h52 := (U51.mono fun b hb => .inl hb).trans s52 (fun b hb => .inl (.inr (.inr hb)))
         have NU52 := U52.nx
         refine L_nil ⟨rfl, ?_⟩
         refine D_e (e := 18) (l := []) (s' := []) kr kr rfl kr (Rk_1 rfl rfl (Rk_1 rfl rfl (Rk_1 rfl rfl (Rk_ld _ rfl rfl rfl kr ((I.sm T52 hF).cl.ld (o := 6) kr rfl) kr (Rk_1 rfl rfl (Rk_ld _ rfl rfl rfl kr (c34.ld (o := 3) kr rfl) kr Rk_nil)))))) (NS_nil ?_)
         have e53 := f52
         have t53 := q52
         generalize g52 = h53 at e53 t53 X52
         refine L_mu _ rfl rfl rfl kr kr kr (e53) ?_
         replace c32 := c32.sm t53 (fun e => by have e : _ = mb := e; omega)
         have T53 : Sm (SB2 sb mb) h h53 := T52.trans t53 (fun b hb => .inl (.inr hb))
         have N53 := T53.nx
         have U53 : Sm (fun b => b = h31.next ∨ b = mb ∨ vb (mvV mv x.n) = some b) h33 h53 := U52.trans t53 (fun b hb => .inl (.inr (.inl hb)))
         have NU53 := U53.nx
         refine L_nil ⟨rfl, ?_⟩
         refine D_l (l := []) kr kr Rk_nil (NS_nil (W_region (L_i ((i : Int)) (1) (nv ((i + 1 : Nat) : Int)) rfl rfl kr kr rfl (inc_ok (by omega)) (L_g 1 kr (L_nil ?_)))))
         have e31 : cntV N ((L p).take (i + 1)) = cntV N ((L p).take i) := by rw [take_one hx, cntV_no (by omega)]
         rw [← e31] at c32
         exact ⟨(L p).length - (i + 1), by omega, i + 1, (kset mv x.n v52), by omega, by rw [sndI_no hx (by omega)]; exact hs.sm U53 (fun e => by first | (have e : _ = _ := e; omega) | (rcases e with e | e | e <;> first | omega | exact hX.lo _ _ e (.inl (by omega))) | (rcases e with e | e <;> omega)) (fun _ _ e => e), by rw [rcvI_no hx (by omega)]; exact hr.sm U53 (fun e => by first | (have e : _ = _ := e; omega) | (rcases e with e | e | e <;> first | omega | exact hX.lo _ _ e (.inl (by omega))) | (rcases e with e | e <;> omega)) (fun _ _ e => e), hrb.sm U53 hr.1 (fun e => by first | (have e : _ = _ := e; omega) | (rcases e with e | e | e <;> first | omega | exact hX.lo _ _ e (.inl (by omega))) | (rcases e with e | e <;> omega)), X52.eq (fun no => metI_next (N := N) hx hk3 hoki (by rw [before_meet hk3]; exact hn3) no), kset_nodup _ _ _ hnd, by rw [take_one hx]; exact okL_snoc hoki hE, rfl, kr, kr, kr, kr, kr, by rw [take_one hx]; rw [cntM_app, if_pos hk3]; kernel_rfl, kr, kr, kr, kr, kr, kr, T53, c32⟩
      ·
        have hn3 : ¬ x.k = 3 := of_decide_eq_false hb
        refine W_seq (W_region (L_i (x.k) (4) (.bool (decide (x.k = 4))) rfl rfl kr kr rfl (rfl) (L_g 1 kr (L_nil ?_))))
        refine W_cond (decide (x.k = 4)) kr (fun hb => ?_) (fun hb => ?_)
        ·
         have hk4 : x.k = 4 := of_decide_eq_true hb
         refine W_seq ?_
         by_cases hv0 : x.v < 0
         ·
          refine W_rg 1 kr (L_ld _ rfl rfl kr (c34.ld (o := 4) kr rfl) (L_i (x.v) (0) (.bool true) rfl rfl kr kr rfl (by first | (simp; done) | (simp; omega)) (L_g 5 kr (L_nil ?_))))
          refine W_cond true kr (fun _ => ?_) (fun e => by cases e)
          refine W_sg 1 kr (L_nil (W_ret ?_))
          repeat first | with_reducible refine then_ret ?_ | with_reducible refine blk_ret ?_
          have hbad : idxB N L = false := by
           refine idxB_bad hlt (okL_bad hx ?_)
           rw [okE_work hk4]
           try simp at hb
           simp
           omega
          refine done_of (v := .bool false) (.inl rfl) kr ?_
          exact ⟨by rw [hbad], T35, fun hb => by rw [hbad] at hb; cases hb⟩
         ·
          refine W_rg 1 kr (L_ld _ rfl rfl kr (c34.ld (o := 4) kr rfl) (L_i (x.v) (0) (.bool false) rfl rfl kr kr rfl (by simp; omega) (L_g 2 kr (L_want kr (L_ld _ rfl rfl kr (c34.ld (o := 4) kr rfl) (L_want kr (L_i (x.v) (1048576) (.bool (decide (1048576 < x.v))) rfl rfl kr kr rfl (rfl) (L_g 1 kr (L_nil ?_)))))))))
          refine W_cond (decide (1048576 < x.v)) kr (fun hb => ?_) (fun hb => ?_)
          ·
           refine W_sg 1 kr (L_nil (W_ret ?_))
           repeat first | with_reducible refine then_ret ?_ | with_reducible refine blk_ret ?_
           have hbad : idxB N L = false := by
            refine idxB_bad hlt (okL_bad hx ?_)
            rw [okE_work hk4]
            simp at hb ⊢
            omega
           refine done_of (v := .bool false) (.inl rfl) kr ?_
           exact ⟨by rw [hbad], T35, fun hb => by rw [hbad] at hb; cases hb⟩
          ·
           have hE : okE N ((L p).take i) x = true := by rw [okE_work hk4]; simp at hb ⊢; omega
           refine W_skip (W_region (L_i ((i : Int)) (1) (nv ((i + 1 : Nat) : Int)) rfl rfl kr kr rfl (inc_ok (by omega)) (L_g 1 kr (L_nil ?_))))
           have e31 : cntV N ((L p).take (i + 1)) = cntV N ((L p).take i) := by rw [take_one hx, cntV_no (by omega)]
           rw [← e31] at c32
           exact ⟨(L p).length - (i + 1), by omega, i + 1, mv, by omega, by rw [sndI_no hx (by omega)]; exact hs.sm U35 (fun e => by first | (have e : _ = _ := e; omega) | (rcases e with e | e | e <;> first | omega | exact hX.lo _ _ e (.inl (by omega))) | (rcases e with e | e <;> omega)) (fun _ _ e => e), by rw [rcvI_no hx (by omega)]; exact hr.sm U35 (fun e => by first | (have e : _ = _ := e; omega) | (rcases e with e | e | e <;> first | omega | exact hX.lo _ _ e (.inl (by omega))) | (rcases e with e | e <;> omega)) (fun _ _ e => e), hrb.sm U35 hr.1 (fun e => by first | (have e : _ = _ := e; omega) | (rcases e with e | e | e <;> first | omega | exact hX.lo _ _ e (.inl (by omega))) | (rcases e with e | e <;> omega)), (hX.sm U35 (fun b hb => ⟨(fun e => by first | (have hb : _ = _ := hb; omega) | (rcases hb with hb | hb <;> omega)), .inl (by first | exact .inr hb | exact Or.elim hb .inr (fun e => .inl (by omega)))⟩)).eq (fun no => by rw [metI_no hx (by omega)]), hnd, by rw [take_one hx]; exact okL_snoc hoki hE, rfl, kr, kr, kr, kr, kr, by rw [take_one hx]; rw [cntM_app, if_neg (by omega)]; kernel_rfl, kr, kr, kr, kr, kr, kr, T35, c32⟩
        ·
         have hn4 : ¬ x.k = 4 := of_decide_eq_false hb
         refine W_sg 1 kr (L_nil (W_ret ?_))
         repeat first | with_reducible refine then_ret ?_ | with_reducible refine blk_ret ?_
         have hbad : idxB N L = false := by
          refine idxB_bad hlt (okL_bad hx ?_)
          exact okE_none hn1 hn2 hn3 hn4
         refine done_of (v := .bool false) (.inl rfl) kr ?_
         exact ⟨by rw [hbad], T35, fun hb => by rw [hbad] at hb; cases hb⟩
  ·
   have hge2 : i = (L p).length := by simp at hb; omega
   refine W_exit ?_
   repeat with_reducible refine then_exit ?_
   refine exit_here (W_region (L_i ((p : Int)) (1) (nv ((p + 1 : Nat) : Int)) rfl rfl kr kr rfl (inc_ok (by omega)) (L_g 1 kr (L_nil ?_))))
   have hil : i = (L p).length := by omega
   subst hil
   exact ⟨N - (p + 1), by omega, p + 1, mv, by omega, (fun q hq => (Nat.lt_succ_iff_lt_or_eq.1 hq).elim (hok q) (fun e => by subst e; rw [List.take_length] at hoki; exact hoki)), by rw [← sndI_N]; exact hs, by rw [← rcvI_N]; exact hr, hrb, ((hX.weak (av' := fun b => b ≤ h.next) (by omega) (fun b hb => .inl hb)).eq (fun no => meetL_metI L no p)), hnd, by omega, rfl, kr, kr, kr, kr, kr, T33⟩
 ·
  have hge : N = p := by simp at hb; omega
  subst hge
  refine W_exit ?_
  repeat with_reducible refine then_exit ?_
  refine exit_here (W_seq (W_seq (W_region (L_g 1 kr ?_))))
  obtain ⟨h54, e54, ⟨c0, hI0⟩, t54, n54⟩ := Itr.start (P := Tryz.prog) uRecv hr hrb
  refine L_rg _ rfl rfl kr e54 ?_
  have T54 := T31.ext t54
  have N54 := T54.nx
  have U54 := U31.ext t54
  have NU54 := U54.nx
  refine L_nil (W_block ?_)
  refine W_loop (fun mm fr hh => ∃ (c : Nat) (dn : Nat → Prop), (Itr hh h31.next h.next k3 rB (rcvS L N) dn c) ∧ (∀ (j : Nat) (e : (Int × Int × Int) × Bool), dn j → (rcvS L N)[j]? = some e → (kget (sndS L N) e.1).isSome = true) ∧ (Mp hh sb k3 r2 (sndS L N)) ∧ (MX hh mb (fun b => b ≤ h.next ∨ b = h31.next) mv (fun no => meetL L no N)) ∧ (h31.next < hh.next) ∧ mm = c ∧ fr 0 = ptr tb ∧ fr 144 = ptr h31.next ∧ Sm (SB2 sb mb) h hh) (c0) ?_ ?_
  ·
   exact ⟨c0, (fun _ => False), hI0, (fun j e hj => hj.elim), hs.sm U54 (fun x => x) (fun _ _ e => e), hX.avoid U54 (av' := fun b => b ≤ h.next ∨ b = h31.next) (fun b hb => by have := hI0.lt; rcases hb with hb | hb <;> omega) (.inl (by omega)) (fun b hb => hb.elim .inl (fun e => .inr (by have := U54.nx; omega))), hI0.lt, rfl, kr, kr, T54⟩
  rintro mm55 fr55 h55 ⟨c, dn, hI, hdn, hs, hX, hit, hm55, y55_0, y55_144, T55⟩
  have N55 := T55.nx
  refine W_set (k := 0) y55_0 (W_set (k := 144) y55_144 (W_seq (W_region ?_)))
  refine L_nx rfl rfl kr hI (fun hall => ?_) (fun ie e vnx cnx hnx hie hndn hRv hcl hInx tnx nnx henx => ?_)
  ·
   refine L_g 1 kr (L_nil (W_seq ?_))
   refine W_cond false kr (fun e => by cases e) (fun _ => ?_)
   refine W_exit ?_
   repeat with_reducible refine then_exit ?_
   refine exit_here (W_sg 1 kr (L_nil (W_ret ?_)))
   repeat first | with_reducible refine then_ret ?_ | with_reducible refine blk_ret ?_
   refine done_of (v := .bool true) (.inl rfl) kr ?_
   have hidx : idxB N L = true := (idxB_last hok).2 (fun j e he => hdn j e (hall j (List.getElem?_eq_some_iff.1 he).1) he)
   obtain ⟨mt, hmt, hmg⟩ := hX.rst (F := fun b => h.next ≤ b) (fun no b hb => by have := hX.lo no b hb; omega) hnd
   exact ⟨by rw [hidx], T55, fun _ => ⟨by rw [← sndS_eq]; exact hs, mt, hmt, hmg⟩⟩
  ·
   have Tnx : Sm (SB2 sb mb) h hnx := T55.trans tnx (fun b hb => .inr (by have hb : b = _ := hb; omega))
   have Nnx := Tnx.nx
   have hsx := hs.sm tnx (fun e => by have e : sb = _ := e; omega) (fun _ _ e => e)
   have hXx := hX.sm tnx (fun b hb => by have hb : b = _ := hb; exact ⟨by omega, .inl (.inr hb)⟩)
   have Unx : Sm Nix hnx hnx := .refl
   refine L_g 1 kr (L_nil (W_seq ?_))
   refine W_cond true kr (fun _ => ?_) (fun e => by cases e)
   refine W_skip (W_block (W_seq (W_region (L_p (.tuple ⟨[k3 e.1, vnx]⟩) rfl (by exact henx) (L_g 1 kr (L_nwc [nv 0, nv 0, nv 0] .ptr rfl rfl kr fun h58 c58 t58 n58 => ?_))))))
   have T58 := Tnx.ext t58
   have U58 := Unx.ext t58
   have N58 := T58.nx
   have NU58 := U58.nx
   obtain ⟨h59, e59, d59, t59, n59⟩ := c58.sA 159 [nv e.1.1, nv e.1.2.1, nv e.1.2.2]
   replace c58 := d59
   have T59 := T58.tr t59
   have U59 := U58.tr t59
   have N59 := T59.nx
   have NU59 := U59.nx
   refine L_st _ rfl rfl rfl kr kr (e59) (L_nil (W_seq (W_drawn kr (D_e (e := 10) (l := [0,1,2,3,4,5,6,7,8,9]) (s' := [8]) kr kr rfl kr Rk_nil (NS_b 3 kr (NS_ld _ rfl rfl kr kr kr ((I.sm T59 hF).cl.ld (o := 5) kr rfl) (NS_ld _ rfl rfl kr kr kr (Cl.allN (n := 3) c58 rfl kr) (NS_lk _ rfl rfl kr kr kr kr (lookSent (hsx.sm U59 (fun x => x) (fun _ _ e => e)) e.1 true) (NS_b 3 kr (NS_nwc [nv 0, nv 0] .ptr rfl kr rfl rfl kr (Rk_1 rfl rfl (Rk_1 rfl rfl (Rk_1 rfl rfl (Rk_ld _ rfl rfl rfl kr ((I.sm (T59.ext (.push h59 _)) hF).cl.ld (o := 5) kr rfl) kr (Rk_ld _ rfl rfl rfl kr (Cl.allN (n := 3) (c58.ext (.push h59 _)) rfl kr) kr (Rk_lk _ rfl rfl rfl kr kr (lookSent (hsx.sm (U59.ext (.push h59 _)) (fun x => x) (fun _ _ e => e)) e.1 true) kr (Rk_1 rfl rfl (Rk_1 rfl rfl (Rk_1 rfl rfl (Rk_1 rfl rfl Rk_nil)))))))))) fun h60 c60 t60 n60 => ?_))))))))))
   have T60 := T59.ext t60
   have U60 := U59.ext t60
   have N60 := T60.nx
   have NU60 := U60.nx
   refine NS_nil ?_
   obtain ⟨h61, e61, d61, t61, n61⟩ := c60.sA 91 [nv ((kget (sndS L N) e.1).getD (0, 0)).1, nv ((kget (sndS L N) e.1).getD (0, 0)).2]
   replace c60 := d61
   have T61 := T60.tr t61
   have U61 := U60.tr t61
   have N61 := T61.nx
   have NU61 := U61.nx
   refine L_st _ rfl rfl rfl kr kr (e61) ?_
   refine L_nil ⟨rfl, ?_⟩
   refine D_l (l := [11]) kr kr (Rk_noRead kr) (NS_b 1 kr (NS_nil (W_sg 2 kr (L_nil ?_))))
   refine W_cond (!(kget (sndS L N) e.1).isSome) kr (fun hb => ?_) (fun hb => ?_)
   ·
    refine W_sg 1 kr (L_nil (W_ret ?_))
    repeat first | with_reducible refine then_ret ?_ | with_reducible refine blk_ret ?_
    have hbad : idxB N L = false := by
     refine Bool.eq_false_iff.2 fun hgood => ?_
     have := (idxB_last hok).1 hgood ie e hie
     rw [this] at hb
     simp at hb
    refine done_of (v := .bool false) (.inl rfl) kr ?_
    exact ⟨by rw [hbad], T61, fun hb => by rw [hbad] at hb; cases hb⟩
   ·
    refine W_skip ?_
    exact ⟨cnx, by omega, cnx, (fun j => j = ie ∨ dn j), hInx.sm U61 (fun x => x) (fun x => x), (fun j e2 hj he2 => by
      rcases hj with rfl | hj
      · rw [hie] at he2; cases he2; simpa using hb
      · exact hdn j e2 hj he2), hsx.sm U61 (fun x => x) (fun _ _ e => e), hXx.ext U61, by omega, rfl, kr, kr, T61⟩
end
end Go.Proofs.YtjhbbdfbngbjcaaGreatDoor
