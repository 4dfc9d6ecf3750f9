/- A part of the walks of profiles. -/
import Derived.Test.YtjhbbdfbngbjcaaGreatDoorZz
import Derived.Test.YtjhbbdfbngbjcaaGreatDoorYd
import Derived.Test.YtjhbbdfbngbjcaaGreatDoorYf
import Derived.Test.YtjhbbdfbngbjcaaGreatDoorZu
namespace Go.Proofs.YtjhbbdfbngbjcaaGreatDoor
noncomputable section
open Go Go.X Go.Arm
theorem next_not {h : AH} {F : Nat → Prop} {hi B tb sb mb N : Nat} {VL VS : Option Nat → Value} {L : Lf} {S : Sf} {C : TC} {mt : List (Int × List (Nat × Nat))} {p : Nat} (H : PT h F tb sb mb VL (VS none) N L C mt) (X : SpL h hi B VS N S) (g : Gd N L S) (A : Bn N L C) (hFB : ∀ b, Tch hi B b → ¬ F b) (hp : p < N) (hn : nxt N L C S p = none) : Arm.Calls Tryz.prog 48 [ptr tb, nv (p : Int)] h (fun r => r.1 = .bool false ∧ Sm Nix h r.2) := by
 unfold nxt at hn
 cases hx : (L p)[(S p).length]? with
 | none => exact next_end H X g A hFB hp hx
 | some x =>
  rw [hx] at hn
  dsimp only at hn
  cases hs : strt N L C S p x with
  | none => exact next_wait H X g A hFB hp hx hs
  | some a => rw [hs] at hn; cases hn
set_option maxHeartbeats 4000000 in
theorem timed_ok {h : AH} {VL : Option Nat → Value} {N : Nat} {L : Lf} {C : TC} (I : TIn h (fun b => b < h.next) VL N L) (hL0 : ∀ p, N ≤ p → L p = []) (hB : ∀ q, (L q).length < 1000000000) (hN : N < 1000000) :
  Arm.Calls Tryz.prog 21 [VL none, .agg ⟨[nv C.s, nv C.c, nv C.r, nv C.m]⟩] h (fun r => ((errT N L C ≠ 0 ∧ r.1 = .tuple ⟨[.pointer none, nv (errT N L C)]⟩ ∧ Sm Nix h r.2) ∨
   (errT N L C = 0 ∧ ∃ tb F hi B sb mb VS mt, r.1 = .tuple ⟨[ptr tb, nv 0]⟩ ∧ PT r.2 F tb sb mb VL (VS none) N L C mt ∧ SpL r.2 hi B VS N (timesS N L C) ∧ (∀ b, Tch hi B b → ¬ F b) ∧ h.next ≤ B ∧ Sm Nix h r.2))) := by
 obtain ⟨av, cv, eV⟩ := I.o.form
 refine Calls_W 78 Tryz.f21 ?_
 have T0 : Sm Nix h h := .refl
 refine W_seq (W_region (L_nwc [nv C.s, nv C.c, nv C.r, nv C.m] .ptr rfl rfl kr fun h106 c106 t106 n106 => ?_))
 have T106 := T0.ext t106
 have N106 := T106.nx
 refine L_g 2 kr (L_nil (W_sg 1 kr (L_nil (W_seq (W_block (W_seq ?_))))))
 by_cases hN1 : N < 1
 ·
  refine W_rg 1 kr (L_ln _ rfl rfl kr ((I.ext T106).len (T := 26) (el := 28) kr) (L_i ((N : Int)) (1) (.bool true) rfl rfl kr kr rfl (by first | (simp; done) | (simp; omega)) (L_g 6 kr (L_nil ?_))))
  refine W_cond true kr (fun _ => ?_) (fun e => by cases e)
  refine W_sg 2 kr (L_nil (W_ret ?_))
  repeat first | with_reducible refine then_ret ?_ | with_reducible refine blk_ret ?_
  have herr : errT N L C = 3 := by
   unfold errT
   rw [if_pos (.inl hN1)]
  refine done_of (v := .tuple ⟨[.pointer none, nv 3]⟩) (.inl rfl) kr ?_
  exact .inl ⟨by rw [herr]; decide, by rw [herr], T106⟩
 ·
  refine W_rg 1 kr (L_ln _ rfl rfl kr ((I.ext T106).len (T := 26) (el := 28) kr) (L_i ((N : Int)) (1) (.bool false) rfl rfl kr kr rfl (by simp; omega) (L_g 2 kr (L_want kr (L_ln _ rfl rfl kr ((I.ext T106).len (T := 26) (el := 28) kr) (L_want kr (L_i ((N : Int)) (64) (.bool (decide (64 < N))) rfl rfl kr kr rfl (by simp; omega) (L_g 2 kr (L_nil ?_)))))))))
  refine W_cond (decide (64 < N)) kr (fun hb => ?_) (fun hb => ?_)
  ·
   have h64 : 64 < N := of_decide_eq_true hb
   refine W_sg 2 kr (L_nil (W_ret ?_))
   repeat first | with_reducible refine then_ret ?_ | with_reducible refine blk_ret ?_
   have herr : errT N L C = 3 := by
    unfold errT
    rw [if_pos (.inr h64)]
   refine done_of (v := .tuple ⟨[.pointer none, nv 3]⟩) (.inl rfl) kr ?_
   exact .inl ⟨by rw [herr]; decide, by rw [herr], T106⟩
  ·
   have h64 : ¬ 64 < N := of_decide_eq_false hb
   have hno1 : ¬ (N < 1 ∨ 64 < N) := by omega
   refine W_sg 1 kr (L_c rfl rfl kr (contains1_ok (I.ext T106) hN) ?_)
   rintro v107 h107 ⟨e107, t107⟩
   try dsimp only at e107
   try dsimp only at t107
   subst e107
   replace c106 := c106.ext t107
   have T107 := T106.ext t107
   have N107 := T107.nx
   have M107 := t107.nx
   refine L_g 1 kr (L_nil ?_)
   refine W_cond (manyB N L) kr (fun hb => ?_) (fun hb => ?_)
   ·
    have hmany : manyB N L = true := hb
    refine W_sg 2 kr (L_nil (W_ret ?_))
    repeat first | with_reducible refine then_ret ?_ | with_reducible refine blk_ret ?_
    have herr : errT N L C = 9 := by
     unfold errT
     rw [if_neg hno1, if_pos hmany]
    refine done_of (v := .tuple ⟨[.pointer none, nv 9]⟩) (.inl rfl) kr ?_
    exact .inl ⟨by rw [herr]; decide, by rw [herr], T107⟩
   ·
    have hmany : ¬ manyB N L = true := by simpa using hb
    refine W_sg 1 kr (L_ld _ rfl rfl kr (c106.ld (o := 0) kr rfl) (L_g 1 kr (L_ld _ rfl rfl kr (c106.ld (o := 1) kr rfl) (L_g 1 kr (L_ld _ rfl rfl kr (c106.ld (o := 2) kr rfl) (L_g 1 kr (L_ld _ rfl rfl kr (c106.ld (o := 3) kr rfl) (L_nwc [nv C.s, nv C.c, nv C.r, nv C.m] (.sl 4 4) rfl rfl kr fun h108 c108 t108 n108 => ?_))))))))
    replace c106 := c106.ext t108
    have T108 := T107.ext t108
    have N108 := T108.nx
    refine L_g 1 kr (L_c rfl rfl kr (contains2_ok (v := .slice (some ⟨h107.next, 0, none⟩) 4 4) (zs := [C.s, C.c, C.r, C.m]) (Cl.sdK (by decide) c108 rfl) (by simp)) ?_)
    rintro v109 h109 ⟨e109, t109⟩
    try dsimp only at e109
    try dsimp only at t109
    subst e109
    replace c106 := c106.ext t109
    have T109 := T108.ext t109
    have N109 := T109.nx
    have M109 := t109.nx
    refine L_g 1 kr (L_nil ?_)
    refine W_cond (cost4 C) kr (fun hb => ?_) (fun hb => ?_)
    ·
     have hcost : cost4 C = true := hb
     refine W_sg 2 kr (L_nil (W_ret ?_))
     repeat first | with_reducible refine then_ret ?_ | with_reducible refine blk_ret ?_
     have herr : errT N L C = 3 := by
      unfold errT
      rw [if_neg hno1, if_neg hmany, if_pos hcost]
     refine done_of (v := .tuple ⟨[.pointer none, nv 3]⟩) (.inl rfl) kr ?_
     exact .inl ⟨by rw [herr]; decide, by rw [herr], T109⟩
    ·
     have hcost : ¬ cost4 C = true := by simpa using hb
     refine W_skip (W_seq (W_drawn kr (D_l (l := [0,1,2,3,4,5,6,7,8,9]) kr kr Rk_nil (NS_b 1 kr (NS_ld _ rfl rfl kr kr kr (Cl.allN (n := 4) c106 rfl kr) (NS_newR (Al.map) .mp rfl kr rfl rfl kr (Rk_1 rfl rfl (Rk_ld _ rfl rfl rfl kr (Cl.allN (n := 4) (c106.ext (.push h109 _)) rfl kr) kr (Rk_1 rfl rfl Rk_nil))) ?_))))))
     have m110 : Mp (h109.push (Al.map).obj) h109.next k3 r2 ([] : List ((Int × Int × Int) × (Int × Int))) := Mp.new h109
     have t110 : Sm Nix h109 (h109.push (Al.map).obj) := .push h109 _
     have n110 : (h109.push (Al.map).obj).next = h109.next + 1 := rfl
     generalize h109.push (Al.map).obj = h110 at m110 t110 n110 ⊢
     replace c106 := c106.ext t110
     have T110 := T109.ext t110
     have N110 := T110.nx
     refine NS_newR (Al.map) .mp rfl kr rfl rfl kr (Rk_1 rfl rfl (Rk_ld _ rfl rfl rfl kr (Cl.allN (n := 4) (c106.ext (.push h110 _)) rfl kr) kr (Rk_1 rfl rfl (Rk_1 rfl rfl Rk_nil)))) ?_
     have m111 : Mp (h110.push (Al.map).obj) h110.next nv eqV ([] : List (Int × Value)) := Mp.new h110
     have t111 : Sm Nix h110 (h110.push (Al.map).obj) := .push h110 _
     have n111 : (h110.push (Al.map).obj).next = h110.next + 1 := rfl
     generalize h110.push (Al.map).obj = h111 at m111 t111 n111 ⊢
     replace c106 := c106.ext t111
     replace m110 := m110.sm t111 (fun x => x) (fun _ _ e => e)
     have T111 := T110.ext t111
     have N111 := T111.nx
     refine NS_b 1 kr (NS_ln _ rfl rfl kr kr kr ((I.ext T111).len (T := 26) (el := 28) kr) (NS_nwc (zrep N [.slice none 0 0]) (.sl N N) rfl kr rfl rfl (ev_mkK (P := Tryz.prog) (k := 1) (el := 51) (z := .slice none 0 0) (by_ := 24) kr kr kr kr rfl (by omega) kr kr) (Rk_1 rfl rfl (Rk_ld _ rfl rfl rfl kr (Cl.allN (n := 4) (c106.ext (.push h111 _)) rfl kr) kr (Rk_1 rfl rfl (Rk_1 rfl rfl (Rk_1 rfl rfl (Rk_ln _ rfl rfl rfl kr ((I.ext (T111.ext (.push h111 _))).len (T := 26) (el := 28) kr) kr (Rk_1 rfl rfl Rk_nil))))))) fun h112 c112 t112 n112 => ?_))
     replace c106 := c106.ext t112
     replace m110 := m110.sm t112 (fun x => x) (fun _ _ e => e)
     replace m111 := m111.sm t112 (fun x => x) (fun _ _ e => e)
     have T112 := T111.ext t112
     have N112 := T112.nx
     refine NS_v (.agg ⟨[VL none, nv C.s, nv C.c, nv C.r, nv C.m, .map (some h109.next), .map (some h110.next), .slice (some ⟨h111.next, 0, none⟩) N N]⟩) rfl kr rfl kr (by rw [eV]; kernel_rfl) (NS_nwc [VL none, nv C.s, nv C.c, nv C.r, nv C.m, .map (some h109.next), .map (some h110.next), .slice (some ⟨h111.next, 0, none⟩) N N] .ptr rfl kr rfl rfl kr (Rk_1 rfl rfl (Rk_ld _ rfl rfl rfl kr (Cl.allN (n := 4) (c106.ext (.push h112 _)) rfl kr) kr (Rk_1 rfl rfl (Rk_1 rfl rfl (Rk_1 rfl rfl (Rk_ln _ rfl rfl rfl kr ((I.ext (T112.ext (.push h112 _))).len (T := 26) (el := 28) kr) kr (Rk_1 rfl rfl (Rk_1 rfl rfl (Rk_1 rfl rfl Rk_nil))))))))) fun h113 c113 t113 n113 => ?_)
     replace c112 := c112.ext t113
     replace m110 := m110.sm t113 (fun x => x) (fun _ _ e => e)
     replace m111 := m111.sm t113 (fun x => x) (fun _ _ e => e)
     have T113 := T112.ext t113
     have N113 := T113.nx
     refine NS_b 1 kr (NS_nil (W_seq (W_sg 1 kr (L_c rfl rfl kr (index_ok (F := fun b => b < h.next ∨ b = h112.next) (sp := .slice (some ⟨h111.next, 0, none⟩) N N) (VL := VL) (C := C) ⟨c113, (I.ext T113).mono (fun b hb _ => .inl hb), .inr rfl⟩ m110 m111 (fun b hb hx => by rcases hb with hb | hb <;> rcases hx with hx | hx <;> omega) (by omega) hB hN) ?_))))
     rintro v114 h114 ⟨e114, t114, K114⟩
     dsimp only at e114 t114 K114
     subst e114
     replace c112 := c112.sm t114 (fun e => by rcases e with e | e <;> omega)
     replace c113 := c113.sm t114 (fun e => by rcases e with e | e <;> omega)
     have T114 : Sm Nix h h114 := T113.trans t114 (fun b hb => .inr (by rcases hb with hb | hb <;> omega))
     have N114 := T114.nx
     refine L_g 1 kr (L_nil ?_)
     refine W_cond (!idxB N L) kr (fun hb => ?_) (fun hb => ?_)
     ·
      have hidx : idxB N L = false := by simpa using hb
      refine W_sg 2 kr (L_nil (W_ret ?_))
      repeat first | with_reducible refine then_ret ?_ | with_reducible refine blk_ret ?_
      have herr : errT N L C = 2 := by
       unfold errT
       rw [if_neg hno1, if_neg hmany, if_neg hcost, if_pos hidx]
      refine done_of (v := .tuple ⟨[.pointer none, nv 2]⟩) (.inl rfl) kr ?_
      exact .inl ⟨by rw [herr]; decide, by rw [herr], T114⟩
     ·
      have hidx : idxB N L = true := by simpa using hb
      have A : Bn N L C := ⟨by omega, fun p hp => manyB_ok (by simpa using hmany) hp, cost4_ok (by simpa using hcost), idxB_okl hL0 hidx⟩
      obtain ⟨ks, mt, km, kg⟩ := K114 hidx
      have hBl : h111.next < h113.next := by omega
      have PT0 : PT h114 (fun b => b < h114.next ∧ b ≠ h111.next) h112.next h109.next h110.next VL (VS0 h111.next N none) N L C mt :=
       ⟨c113, (I.ext T114).mono (fun b hb _ => ⟨by omega, by omega⟩), ks, km.mono (fun v l hr => hr.mono (fun b hb hx => ⟨hb, by omega⟩)), ⟨c113.lt, by omega⟩, ⟨ks.1, by omega⟩, ⟨km.1, by omega⟩, kg⟩
      refine W_skip (W_seq (W_sg 1 kr (L_nil (W_block ?_))))
      refine W_loop (fun mm fr hh => ∃ (m : Nat) (St : Sf) (bm : Bool) (VS : Option Nat → Value), (More N L C m St bm) ∧ (Inv N L St) ∧ (PT hh (fun b => b < h114.next ∧ b ≠ h111.next) h112.next h109.next h110.next VL (VS none) N L C mt) ∧ (SpL hh h114.next h111.next VS N St) ∧ mm = m ∧ fr 0 = VL none ∧ fr 7 = ptr h112.next ∧ fr 8 = .bool bm ∧ Sm Nix h hh) ((totL N L + 1)) ?_ ?_
      ·
       exact ⟨(totL N L + 1), nil_, true, (VS0 h111.next N), more0 N L C, Inv.nil N L, PT0, SpL.start c112, rfl, kr, kr, kr, T114⟩
      rintro mm115 fr115 h115 ⟨m, St, bm, VS, hM, Iv, H, X, hm115, y115_0, y115_7, y115_8, T115⟩
      have N115 := T115.nx
      refine W_set (k := 0) y115_0 (W_set (k := 7) y115_7 (W_set (k := 8) y115_8 ?_))
      have V115 : Sm Nix h115 h115 := .refl
      refine W_seq (W_sg 1 kr (L_nil ?_))
      refine W_cond (bm) kr (fun hb => ?_) (fun hb => ?_)
      ·
       subst hb
       obtain ⟨k, rfl⟩ := hM.pos Iv
       refine W_skip (W_block (W_sg 1 kr (L_nil (W_sg 1 kr (L_ln _ rfl rfl kr ((I.ext T115).len (T := 26) (el := 28) kr) (L_g 1 kr (L_nil ?_)))))))
       refine W_block ?_
       refine W_loop (fun mm fr hh => ∃ (q : Nat) (VS : Option Nat → Value), (q ≤ N) ∧ (PT hh (fun b => b < h114.next ∧ b ≠ h111.next) h112.next h109.next h110.next VL (VS none) N L C mt) ∧ (SpL hh h114.next h111.next VS N (rnd N L C q (St, false)).1) ∧ mm = N - q ∧ fr 0 = VL none ∧ fr 7 = ptr h112.next ∧ fr 8 = .bool (rnd N L C q (St, false)).2 ∧ fr 49 = nv (N : Int) ∧ fr 50 = nv (q : Int) ∧ Sm Nix h hh) (N) ?_ ?_
       ·
        exact ⟨0, VS, Nat.zero_le _, H.ext V115, X.ext V115, rfl, kr, kr, kr, kr, kr, T115⟩
       rintro mm116 fr116 h116 ⟨q, VS, hq, H, X, hm116, y116_0, y116_7, y116_8, y116_49, y116_50, T116⟩
       have N116 := T116.nx
       refine W_set (k := 0) y116_0 (W_set (k := 7) y116_7 (W_set (k := 8) y116_8 (W_set (k := 49) y116_49 (W_set (k := 50) y116_50 ?_))))
       have V116 : Sm Nix h116 h116 := .refl
       refine W_sg 1 kr (L_nil (W_seq ?_))
       refine W_cond (decide ((q : Int) < (N : Nat))) kr (fun hb => ?_) (fun hb => ?_)
       ·
        have hlt : q < N := by simp at hb; omega
        refine W_skip (W_seq (W_block (W_sg 2 kr (L_nil (W_block ?_)))))
        refine W_loop (fun mm fr hh => ∃ (S1 : Sf) (b1 : Bool) (VS : Option Nat → Value), (goP N L C (rnd N L C q (St, false)).1 q = goP N L C S1 q) ∧ ((S1 = (rnd N L C q (St, false)).1 ∧ b1 = (rnd N L C q (St, false)).2) ∨ (b1 = true ∧ (nxt N L C (rnd N L C q (St, false)).1 q).isSome = true)) ∧ (Inv N L S1) ∧ (PT hh (fun b => b < h114.next ∧ b ≠ h111.next) h112.next h109.next h110.next VL (VS none) N L C mt) ∧ (SpL hh h114.next h111.next VS N S1) ∧ mm = (L q).length - (S1 q).length ∧ fr 0 = VL none ∧ fr 7 = ptr h112.next ∧ fr 8 = .bool b1 ∧ fr 9 = nv (q : Int) ∧ fr 49 = nv (N : Int) ∧ fr 50 = nv (q : Int) ∧ Sm Nix h hh) (((L q).length - ((rnd N L C q (St, false)).1 q).length)) ?_ ?_
        ·
         exact ⟨(rnd N L C q (St, false)).1, (rnd N L C q (St, false)).2, VS, rfl, (.inl ⟨rfl, rfl⟩), (Iv.rnd A.c A.l q hq).1, H.ext V116, X.ext V116, rfl, kr, kr, kr, kr, kr, kr, T116⟩
        rintro mm117 fr117 h117 ⟨S1, b1, VS, hg, hf, I1, H, X, hm117, y117_0, y117_7, y117_8, y117_9, y117_49, y117_50, T117⟩
        have N117 := T117.nx
        refine W_set (k := 0) y117_0 (W_set (k := 7) y117_7 (W_set (k := 8) y117_8 (W_set (k := 9) y117_9 (W_set (k := 49) y117_49 (W_set (k := 50) y117_50 ?_)))))
        have V117 : Sm Nix h117 h117 := .refl
        refine W_seq (W_seq ?_)
        rcases hn : nxt N L C S1 q with _ | s
        ·
         refine W_rg 2 kr (L_c rfl rfl kr (next_not (H.ext V117) (X.ext V117) I1.g A (fun b hb hx => by rcases hb with hb | hb <;> omega) hlt hn) ?_)
         rintro v118 h118 ⟨e118, t118⟩
         try dsimp only at e118
         try dsimp only at t118
         subst e118
         have T118 := T117.ext t118
         have V118 := V117.ext t118
         have N118 := T118.nx
         have NV118 := V118.nx
         have M118 := t118.nx
         refine L_nil ?_
         refine W_cond false kr (fun e => by cases e) (fun _ => ?_)
         refine W_exit ?_
         repeat with_reducible refine then_exit ?_
         refine exit_here (W_region (L_i ((q : Int)) (1) (nv ((q + 1 : Nat) : Int)) rfl rfl kr kr rfl (inc_ok (by omega)) (L_g 1 kr (L_nil ?_))))
         have e1 : (rnd N L C (q + 1) (St, false)).1 = S1 := by
          show goP N L C (rnd N L C q (St, false)).1 q = S1
          rw [hg, goP_none hn]
         have e2 : (rnd N L C (q + 1) (St, false)).2 = b1 := by
          show ((rnd N L C q (St, false)).2 || (nxt N L C (rnd N L C q (St, false)).1 q).isSome) = b1
          rcases hf with ⟨e3, e4⟩ | ⟨e3, e4⟩
          · rw [← e3, hn, e4]; simp
          · rw [e3, e4]; simp
         exact ⟨N - (q + 1), by omega, q + 1, VS, by omega, H.ext V118, by rw [e1]; exact X.ext V118, rfl, kr, kr, by rw [e2]; kernel_rfl, kr, kr, T118⟩
        ·
         refine W_rg 2 kr (L_c rfl rfl kr (next_ok (H.ext V117) (X.ext V117) I1.g A (fun b hb hx => by rcases hb with hb | hb <;> omega) hlt hn) ?_)
         rintro v119 h119 ⟨e119, VS2, hv2, X2, t119⟩
         dsimp only at e119 X2 t119
         subst e119
         have H2 := (H.ext V117).sm t119 (fun b hb hx => by rcases hb with hb | hb <;> omega)
         rw [← hv2] at H2
         have T119 : Sm Nix h h119 := T117.trans t119 (fun b hb => .inr (by rcases hb with hb | hb <;> omega))
         have N119 := T119.nx
         refine L_nil ?_
         refine W_cond true kr (fun _ => ?_) (fun e => by cases e)
         refine W_skip (W_block (W_rg 1 kr (L_nil ?_)))
         have hnl := nxt_lt hn
         have hput : (put1 S1 q s q).length = (S1 q).length + 1 := by rw [put1_at]; simp
         exact ⟨(L q).length - (put1 S1 q s q).length, by omega, put1 S1 q s, true, VS2, by rw [hg]; exact goP_some hn, (.inr ⟨rfl, by
            rcases hf with ⟨e3, e4⟩ | ⟨e3, e4⟩
            · rw [← e3, hn]; rfl
            · exact e4⟩), I1.nxt A.c A.l hlt hn, H2, X2, rfl, kr, kr, kr, kr, kr, kr, T119⟩
       ·
        have hge : ¬ q < N := by simpa using hb
        refine W_exit ?_
        repeat with_reducible refine then_exit ?_
        refine exit_here ?_
        have hNq : N = q := by omega
        subst hNq
        exact ⟨k, by omega, k, (rnd N L C N (St, false)).1, (rnd N L C N (St, false)).2, VS, hM.step Iv A.c A.l, (Iv.rnd A.c A.l N (Nat.le_refl _)).1, H, X, rfl, kr, kr, kr, T116⟩
      ·
       subst hb
       have hts : timesS N L C = St := hM
       refine W_exit ?_
       repeat with_reducible refine then_exit ?_
       refine exit_here (W_seq (W_sg 1 kr (L_ln _ rfl rfl kr ((I.ext T115).len (T := 26) (el := 28) kr) (L_g 1 kr (L_nil (W_block ?_))))))
       refine W_loop (fun mm fr hh => ∃ (k : Nat), (k ≤ N) ∧ (∀ q, q < k → (L q).length ≤ (St q).length) ∧ (PT hh (fun b => b < h114.next ∧ b ≠ h111.next) h112.next h109.next h110.next VL (VS none) N L C mt) ∧ (SpL hh h114.next h111.next VS N St) ∧ mm = N - k ∧ fr 0 = VL none ∧ fr 7 = ptr h112.next ∧ fr 58 = nv (N : Int) ∧ fr 59 = nv (k : Int) ∧ Sm Nix h hh) (N) ?_ ?_
       ·
        exact ⟨0, Nat.zero_le _, (fun q hq => by omega), H.ext V115, X.ext V115, rfl, kr, kr, kr, kr, T115⟩
       rintro mm120 fr120 h120 ⟨k, hk, hno, H, X, hm120, y120_0, y120_7, y120_58, y120_59, T120⟩
       have N120 := T120.nx
       refine W_set (k := 0) y120_0 (W_set (k := 7) y120_7 (W_set (k := 58) y120_58 (W_set (k := 59) y120_59 ?_)))
       have V120 : Sm Nix h120 h120 := .refl
       refine W_sg 1 kr (L_nil (W_seq ?_))
       refine W_cond (decide ((k : Int) < (N : Nat))) kr (fun hb => ?_) (fun hb => ?_)
       ·
        have hlt : k < N := by simp at hb; omega
        refine W_skip (W_seq (W_block (W_sg 2 kr (L_nil (W_seq (W_drawn kr (D_l (l := [0,1,2,3,4,5,6,7,8,9,10,11,12,13]) kr kr Rk_nil (NS_b 3 kr (NS_ld _ rfl rfl kr kr kr ((H.ext V120).cl.ld (o := 7) kr rfl) ?_)))))))))
        refine NS_b 1 kr ?_
        obtain ⟨b1, o1, i1, l1⟩ := (X.ext V120).row (T := 31) (el := 51) kr kr kr hlt
        refine NS_ix _ rfl rfl kr kr kr kr (i1) (NS_ld _ rfl rfl kr kr kr (l1) (NS_ln _ rfl rfl kr kr kr ((X.ext V120).lenR (T := 51) (el := 55) kr k) (NS_b 2 kr ?_)))
        obtain ⟨b3, o3, i3, l3⟩ := (I.ext T120).row (T := 26) (el := 28) kr kr kr hlt
        refine NS_ix _ rfl rfl kr kr kr kr (i3) (NS_ld _ rfl rfl kr kr kr (l3) (NS_ln _ rfl rfl kr kr kr ((I.ext T120).lenR (T := 28) (el := 59) kr hlt) (NS_i (((St k).length : Int)) (((L k).length : Int)) (.bool (decide ((St k).length < (L k).length))) rfl rfl kr kr kr kr rfl (by simp) (NS_nil ?_))))
        refine W_cond (decide ((St k).length < (L k).length)) kr (fun hb => ?_) (fun hb => ?_)
        ·
         have hdn : doneT N L (timesS N L C) = false := by
          rw [hts]
          have hlt3 : (St k).length < (L k).length := of_decide_eq_true hb
          exact List.all_eq_false.2 ⟨k, List.mem_range.2 hlt, by simp; omega⟩
         refine W_sg 2 kr (L_nil (W_ret ?_))
         repeat first | with_reducible refine then_ret ?_ | with_reducible refine blk_ret ?_
         have herr : errT N L C = 2 := by
          unfold errT
          rw [if_neg hno1, if_neg hmany, if_neg hcost, if_neg (by rw [hidx]; simp), if_pos hdn]
         refine done_of (v := .tuple ⟨[.pointer none, nv 2]⟩) (.inl rfl) kr ?_
         exact .inl ⟨by rw [herr]; decide, by rw [herr], T120⟩
        ·
         refine W_skip (W_region (L_i ((k : Int)) (1) (nv ((k + 1 : Nat) : Int)) rfl rfl kr kr rfl (inc_ok (by omega)) (L_g 1 kr (L_nil ?_))))
         exact ⟨N - (k + 1), by omega, k + 1, by omega, (fun q hq => (Nat.lt_succ_iff_lt_or_eq.1 hq).elim (hno q) (fun e => by subst e; simp at hb; omega)), H.ext V120, X.ext V120, rfl, kr, kr, kr, kr, T120⟩
       ·
        have hge : N ≤ k := by simp at hb; omega
        refine W_exit ?_
        repeat with_reducible refine then_exit ?_
        refine exit_here (W_sg 3 kr (L_nil (W_ret ?_)))
        repeat first | with_reducible refine then_ret ?_ | with_reducible refine blk_ret ?_
        refine done_of (v := .tuple ⟨[ptr h112.next, nv 0]⟩) (.inl rfl) kr ?_
        have hdn : doneT N L (timesS N L C) = true := by
         rw [hts]
         exact List.all_eq_true.2 (fun q hq => decide_eq_true (hno q (by have := List.mem_range.1 hq; omega)))
        have herr : errT N L C = 0 := by
         unfold errT
         rw [if_neg hno1, if_neg hmany, if_neg hcost, if_neg (by rw [hidx]; simp), if_neg (by rw [hdn]; simp)]
        refine .inr ⟨herr, h112.next, _, h114.next, h111.next, h109.next, h110.next, VS, mt, rfl, H.ext V120, hts ▸ X.ext V120, (fun b hb hx => by rcases hb with hb | hb <;> omega), by omega, T120⟩
end
end Go.Proofs.YtjhbbdfbngbjcaaGreatDoor
