/- Nodes, their laws and the walks of Check, Compile and the law. -/
import Derived.Test.YtlgakeilplnfmaaGreatDoorYl
namespace Go.Proofs.YtlgakeilplnfmaaGreatDoor
noncomputable section
open Go Go.X Go.Arm Go.Mt Go.Lj
theorem kStr : KeyK Tryz.prog 9 kS := KeyK.str kr (fun e k => by kernel_rfl)
theorem add_ok : ∀ (N : Nat) (l : List Nd) (c : Ce) {F : Nat → Prop} {h : AH} {v : Value} {cb mv mr : Nat} (_ : szl l < N) (_ : c.n + szl l < 1000000) (_ : NdS F h v l) (_ : ∀ b, F b → ¬ CS cb mv mr b) (_ : Cen h cb mv mr c),
  Arm.Calls Tryz.prog 46 [ptr cb, v] h (fun r => r.1 = .tuple ⟨[]⟩ ∧ Cen r.2 cb mv mr (cadl c l) ∧ Go.Arm.Sm (CS cb mv mr) h r.2) := by
 intro N
 induction N with
 | zero => intro l c F h v cb mv mr hs _ _ _ _; omega
 | succ N ih =>
  intro l c F h v cb mv mr hs hn8 H hF C
  obtain ⟨cs, H1, H2, H9, H3⟩ := H
  obtain ⟨lt1, lt2, lt3⟩ := C.lt
  have U0 : Go.Arm.Sm Nix h h := .refl
  refine Calls_W 70 Tryz.f46 ?_
  have T0 : Go.Arm.Sm (CS cb mv mr) h h := .refl
  refine W_sg 1 kr (L_ln _ rfl rfl kr ((H1.sm T0 (fun b hb => hF b (H9 b hb))).len (T := 22) (el := 44) kr) (L_g 1 kr (L_nil (W_block ?_))))
  refine W_loop (fun mm fr hh => ∃ (k : Nat) (cc : Ce), (k ≤ l.length) ∧ (cadl cc (l.drop k) = cadl c l) ∧ (cc.n + szl (l.drop k) = c.n + szl l) ∧ (Cen hh cb mv mr cc) ∧ mm = l.length - k ∧ fr 0 = ptr cb ∧ fr 8 = v ∧ fr 9 = nv (l.length : Int) ∧ fr 10 = nv (k : Int) ∧ Go.Arm.Sm (CS cb mv mr) h hh) (l.length) ?_ ?_
  ·
   exact ⟨0, c, Nat.zero_le _, rfl, rfl, C.ext U0, rfl, kr, kr, kr, kr, T0⟩
  rintro mm143 fr143 h143 ⟨k, cc, hk, hc, hn, CC, hm143, y143_0, y143_8, y143_9, y143_10, T143⟩
  have N143 := T143.nx
  refine W_set (k := 0) y143_0 (W_set (k := 8) y143_8 (W_set (k := 9) y143_9 (W_set (k := 10) y143_10 ?_)))
  have U143 : Go.Arm.Sm Nix h143 h143 := .refl
  refine W_sg 1 kr (L_nil (W_seq ?_))
  refine W_cond (decide ((k : Int) < (l.length : Nat))) kr (fun hb => ?_) (fun hb => ?_)
  ·
   have hlt : k < l.length := by simp at hb; omega
   obtain ⟨x, hx⟩ : ∃ x, l[k]? = some x := ⟨_, List.getElem?_eq_getElem hlt⟩
   have hdr : l.drop k = x :: l.drop (k + 1) := by rw [List.drop_eq_getElem_cons hlt]; congr 1; exact (List.getElem?_eq_some_iff.1 hx).2
   obtain ⟨c7, hcc, hnd⟩ := H3.at hx
   have hsz := sz_mem (List.mem_of_getElem? hx)
   have hsx := sz_is x
   have hsd : szl (l.drop k) = sz1 x + szl (l.drop (k + 1)) := by rw [hdr, szl]
   obtain ⟨va, vb, ve, rfl, Ha, Hb, He⟩ := hnd.is
   obtain ⟨p1, c1, rfl⟩ := Ha.form
   obtain ⟨p2, c2, rfl⟩ := Hb.form
   obtain ⟨p3, c3, rfl⟩ := He.form
   obtain ⟨b9, o9, _, i9, l9⟩ := (H1.sm T143 (fun b hb => hF b (H9 b hb))).at (P := Tryz.prog) (T := 22) (el := 44) kr kr hlt .i64
   refine W_skip (W_seq (W_block (W_seq (W_region (L_ix _ rfl rfl kr kr (i9) (L_ld _ rfl rfl kr (ld_l (l := [nv x.op, nv x.val, .string x.nm, .string x.ot, .slice p1 x.a.length c1, .slice p2 x.b.length c2, .slice p3 x.e.length c3]) kr (fun j hj => by rw [l9 j hj]; exact hcc j hj)) (L_nwc [nv 0, nv 0, .string ⟨#[]⟩, .string ⟨#[]⟩, .slice none 0 0, .slice none 0 0, .slice none 0 0] .ptr rfl rfl kr fun h144 c144 t144 n144 => ?_)))))))
   have T144 : Go.Arm.Sm (CS cb mv mr) h h144 := T143.ext t144
   have U144 : Go.Arm.Sm Nix h143 h144 := U143.ext t144
   have N144 := T144.nx
   have NU144 := U144.nx
   obtain ⟨h145, e145, d145, t145, n145⟩ := c144.sA 44 [nv x.op, nv x.val, .string x.nm, .string x.ot, .slice p1 x.a.length c1, .slice p2 x.b.length c2, .slice p3 x.e.length c3]
   replace c144 := d145
   have T145 : Go.Arm.Sm (CS cb mv mr) h h145 := T144.tr t145
   have U145 : Go.Arm.Sm Nix h143 h145 := U144.tr t145
   have N145 := T145.nx
   have NU145 := U145.nx
   refine L_st _ rfl rfl rfl kr kr (e145) (L_nil (W_sg 3 kr (L_ld _ rfl rfl kr ((CC.ext U145).cl.ld (o := 0) kr rfl) (L_i ((cc.n : Int)) (1) (nv ((cc.n + 1 : Nat) : Int)) rfl rfl kr kr rfl (inc_ok (by omega)) (L_g 2 kr ?_)))))
   obtain ⟨h146, e146, C146, t146, n146⟩ := ((CC.ext U145).setN (P := Tryz.prog) (T := 3) kr)
   refine L_st _ rfl rfl rfl kr kr (e146) ?_
   replace c144 := c144.sm t146 (CS.n (by omega) (by omega) (by omega))
   have T146 : Go.Arm.Sm (CS cb mv mr) h h146 := T145.then t146
   have N146 := T146.nx
   have U146 : Go.Arm.Sm Nix h146 h146 := .refl
   refine L_nil ?_
   refine W_seq_cut (fun fr hh => (Cen hh cb mv mr (cc.inc.name x.op x.nm)) ∧ fr 0 = ptr cb ∧ fr 5 = ptr h143.next ∧ fr 8 = v ∧ fr 9 = nv (l.length : Int) ∧ fr 10 = nv (k : Int) ∧ Go.Arm.Sm (CS cb mv mr) h hh ∧ Cl hh (h143.next) [nv x.op, nv x.val, .string x.nm, .string x.ot, .slice p1 x.a.length c1, .slice p2 x.b.length c2, .slice p3 x.e.length c3]) ?_ ?_
   ·
    refine W_block (W_seq ?_)
    have h4 : x.op = 4 ∨ x.op = 5 ∨ x.op = 6 ∨ (x.op ≠ 4 ∧ x.op ≠ 5 ∧ x.op ≠ 6) := by omega
    rcases h4 with q1 | q1 | q1 | ⟨q1, q2, q3⟩
    ·
     refine W_rg 1 kr (L_ld _ rfl rfl kr (c144.ld (o := 0) kr rfl) (L_i (x.op) (4) (.bool true) rfl rfl kr kr rfl (by first | (simp; omega) | (simp [*]; done)) (L_g 11 kr (L_nil (W_cT kr (W_drawn kr (D_e (e := 6) (l := [0,1,2,3,4,5]) (s' := []) kr kr rfl kr Rk_nil (NS_b 3 kr (NS_ld _ rfl rfl kr kr kr ((C146.ext U146).cl.ld (o := 2) kr rfl) (NS_b 1 kr ?_))))))))))
     refine NS_ld _ rfl rfl kr kr kr (c144.ld (o := 2) kr rfl) (NS_nil ?_)
     obtain ⟨h147, e147, C147, t147, n147⟩ := ((C146.ext U146).setR (P := Tryz.prog) (T := 75) (el := 4) kr kStr x.nm)
     refine L_mu _ rfl rfl rfl kr kr kr (e147) ?_
     replace c144 := c144.sm t147 (CS.n (by omega) (by omega) (by omega))
     have T147 : Go.Arm.Sm (CS cb mv mr) h h147 := T146.then t147
     have N147 := T147.nx
     have U147 : Go.Arm.Sm Nix h147 h147 := .refl
     refine L_nil ⟨rfl, ?_⟩
     refine D_l (l := []) kr kr Rk_nil (NS_nil ?_)
     skip
     exact ⟨(by unfold Ce.name; rw [if_pos (by omega)]; exact C147.ext U147), kr, kr, kr, kr, kr, T147, c144⟩
    ·
     refine W_rg 1 kr (L_ld _ rfl rfl kr (c144.ld (o := 0) kr rfl) (L_i (x.op) (4) (.bool false) rfl rfl kr kr rfl (by first | (simp; omega) | (simp [*]; done)) (L_g 2 kr (L_want kr (L_ld _ rfl rfl kr (c144.ld (o := 0) kr rfl) (L_want kr (L_i (x.op) (5) (.bool true) rfl rfl kr kr rfl (by first | (simp; omega) | (simp [*]; done)) (L_g 7 kr (L_nil (W_cT kr ?_))))))))))
     refine W_drawn kr (D_e (e := 6) (l := [0,1,2,3,4,5]) (s' := []) kr kr rfl kr Rk_nil (NS_b 3 kr (NS_ld _ rfl rfl kr kr kr ((C146.ext U146).cl.ld (o := 2) kr rfl) (NS_b 1 kr (NS_ld _ rfl rfl kr kr kr (c144.ld (o := 2) kr rfl) (NS_nil ?_))))))
     obtain ⟨h148, e148, C148, t148, n148⟩ := ((C146.ext U146).setR (P := Tryz.prog) (T := 75) (el := 4) kr kStr x.nm)
     refine L_mu _ rfl rfl rfl kr kr kr (e148) ?_
     replace c144 := c144.sm t148 (CS.n (by omega) (by omega) (by omega))
     have T148 : Go.Arm.Sm (CS cb mv mr) h h148 := T146.then t148
     have N148 := T148.nx
     have U148 : Go.Arm.Sm Nix h148 h148 := .refl
     refine L_nil ⟨rfl, ?_⟩
     refine D_l (l := []) kr kr Rk_nil (NS_nil ?_)
     skip
     exact ⟨(by unfold Ce.name; rw [if_pos (by omega)]; exact C148.ext U148), kr, kr, kr, kr, kr, T148, c144⟩
    ·
     refine W_rg 1 kr (L_ld _ rfl rfl kr (c144.ld (o := 0) kr rfl) (L_i (x.op) (4) (.bool false) rfl rfl kr kr rfl (by first | (simp; omega) | (simp [*]; done)) (L_g 2 kr (L_want kr (L_ld _ rfl rfl kr (c144.ld (o := 0) kr rfl) (L_want kr (L_i (x.op) (5) (.bool false) rfl rfl kr kr rfl (by first | (simp; omega) | (simp [*]; done)) (L_g 3 kr (L_want kr (L_ld _ rfl rfl kr (c144.ld (o := 0) kr rfl) ?_))))))))))
     refine L_want kr (L_i (x.op) (6) (.bool true) rfl rfl kr kr rfl (by first | (simp; omega) | (simp [*]; done)) (L_g 2 kr (L_nil (W_cT kr (W_drawn kr (D_e (e := 6) (l := [0,1,2,3,4,5]) (s' := []) kr kr rfl kr Rk_nil (NS_b 3 kr (NS_ld _ rfl rfl kr kr kr ((C146.ext U146).cl.ld (o := 2) kr rfl) (NS_b 1 kr (NS_ld _ rfl rfl kr kr kr (c144.ld (o := 2) kr rfl) (NS_nil ?_)))))))))))
     obtain ⟨h149, e149, C149, t149, n149⟩ := ((C146.ext U146).setR (P := Tryz.prog) (T := 75) (el := 4) kr kStr x.nm)
     refine L_mu _ rfl rfl rfl kr kr kr (e149) ?_
     replace c144 := c144.sm t149 (CS.n (by omega) (by omega) (by omega))
     have T149 : Go.Arm.Sm (CS cb mv mr) h h149 := T146.then t149
     have N149 := T149.nx
     have U149 : Go.Arm.Sm Nix h149 h149 := .refl
     refine L_nil ⟨rfl, ?_⟩
     refine D_l (l := []) kr kr Rk_nil (NS_nil ?_)
     skip
     exact ⟨(by unfold Ce.name; rw [if_pos (by omega)]; exact C149.ext U149), kr, kr, kr, kr, kr, T149, c144⟩
    ·
     refine W_rg 1 kr (L_ld _ rfl rfl kr (c144.ld (o := 0) kr rfl) (L_i (x.op) (4) (.bool false) rfl rfl kr kr rfl (by first | (simp; omega) | (simp [*]; done)) (L_g 2 kr (L_want kr (L_ld _ rfl rfl kr (c144.ld (o := 0) kr rfl) (L_want kr (L_i (x.op) (5) (.bool false) rfl rfl kr kr rfl (by first | (simp; omega) | (simp [*]; done)) (L_g 3 kr (L_want kr (L_ld _ rfl rfl kr (c144.ld (o := 0) kr rfl) ?_))))))))))
     refine L_want kr (L_i (x.op) (6) (.bool false) rfl rfl kr kr rfl (by first | (simp; omega) | (simp [*]; done)) (L_g 2 kr (L_nil (W_cF kr (W_sg 1 kr (L_ld _ rfl rfl kr (c144.ld (o := 2) kr rfl) (L_p (.bool (!decide (x.nm = emp))) rfl (ev_bin (o := _) rfl kr kr (str_ne _ _ _ x.nm emp)) (L_g 1 kr (L_nil ?_)))))))))
     refine W_cond (!decide (x.nm = emp)) kr (fun hb => ?_) (fun hb => ?_)
     ·
      have q4 : x.nm ≠ emp := by simpa using hb
      refine W_drawn kr (D_e (e := 6) (l := [0,1,2,3,4,5]) (s' := []) kr kr rfl kr Rk_nil (NS_b 3 kr (NS_ld _ rfl rfl kr kr kr ((C146.ext U146).cl.ld (o := 1) kr rfl) (NS_b 1 kr (NS_ld _ rfl rfl kr kr kr (c144.ld (o := 2) kr rfl) (NS_nil ?_))))))
      obtain ⟨h150, e150, C150, t150, n150⟩ := ((C146.ext U146).setV (P := Tryz.prog) (T := 75) (el := 4) kr kStr x.nm)
      refine L_mu _ rfl rfl rfl kr kr kr (e150) ?_
      replace c144 := c144.sm t150 (CS.n (by omega) (by omega) (by omega))
      have T150 : Go.Arm.Sm (CS cb mv mr) h h150 := T146.then t150
      have N150 := T150.nx
      have U150 : Go.Arm.Sm Nix h150 h150 := .refl
      refine L_nil ⟨rfl, ?_⟩
      refine D_l (l := []) kr kr Rk_nil (NS_nil ?_)
      skip
      exact ⟨(by unfold Ce.name; rw [if_neg (by omega), if_neg q4]; exact C150.ext U150), kr, kr, kr, kr, kr, T150, c144⟩
     ·
      have q4 : x.nm = emp := by simpa using hb
      refine W_skip ?_
      skip
      exact ⟨(by unfold Ce.name; rw [if_neg (by omega), if_pos q4]; exact C146.ext U146), kr, kr, kr, kr, kr, T146, c144⟩
   ·
    rintro fr151 h151 ⟨C4, y151_0, y151_5, y151_8, y151_9, y151_10, T151, c144⟩
    have N151 := T151.nx
    have B151_t5 := c144.lt
    refine W_set (k := 0) y151_0 (W_set (k := 5) y151_5 (W_set (k := 8) y151_8 (W_set (k := 9) y151_9 (W_set (k := 10) y151_10 ?_))))
    have U151 : Go.Arm.Sm Nix h151 h151 := .refl
    refine W_seq_cut (fun fr hh => ∃ (ck : Ce), (ck = (cc.inc.name x.op x.nm).other x.ot) ∧ (Cen hh cb mv mr ck) ∧ fr 0 = ptr cb ∧ fr 5 = ptr h143.next ∧ fr 8 = v ∧ fr 9 = nv (l.length : Int) ∧ fr 10 = nv (k : Int) ∧ Go.Arm.Sm (CS cb mv mr) h hh ∧ Cl hh (h143.next) [nv x.op, nv x.val, .string x.nm, .string x.ot, .slice p1 x.a.length c1, .slice p2 x.b.length c2, .slice p3 x.e.length c3]) ?_ ?_
    ·
     refine W_sg 1 kr (L_ld _ rfl rfl kr (c144.ld (o := 3) kr rfl) (L_p (.bool (!decide (x.ot = emp))) rfl (ev_bin (o := _) rfl kr kr (str_ne _ _ _ x.ot emp)) (L_nil ?_)))
     refine W_cond (!decide (x.ot = emp)) kr (fun hb => ?_) (fun hb => ?_)
     ·
      have q5 : x.ot ≠ emp := by simpa using hb
      refine W_drawn kr (D_e (e := 6) (l := [0,1,2,3,4,5]) (s' := []) kr kr rfl kr Rk_nil (NS_b 3 kr (NS_ld _ rfl rfl kr kr kr ((C4.ext U151).cl.ld (o := 1) kr rfl) (NS_b 1 kr (NS_ld _ rfl rfl kr kr kr (c144.ld (o := 3) kr rfl) (NS_nil ?_))))))
      obtain ⟨h152, e152, C152, t152, n152⟩ := ((C4.ext U151).setV (P := Tryz.prog) (T := 75) (el := 4) kr kStr x.ot)
      refine L_mu _ rfl rfl rfl kr kr kr (e152) ?_
      replace c144 := c144.sm t152 (CS.n (by omega) (by omega) (by omega))
      have T152 : Go.Arm.Sm (CS cb mv mr) h h152 := T151.then t152
      have N152 := T152.nx
      have U152 : Go.Arm.Sm Nix h152 h152 := .refl
      refine L_nil ⟨rfl, ?_⟩
      refine D_l (l := []) kr kr Rk_nil (NS_nil ?_)
      skip
      exact ⟨_, rfl, (by unfold Ce.other; rw [if_neg q5]; exact C152.ext U152), kr, kr, kr, kr, kr, T152, c144⟩
     ·
      have q5 : x.ot = emp := by simpa using hb
      refine W_skip ?_
      skip
      exact ⟨_, rfl, (by unfold Ce.other; rw [if_pos q5]; exact C4.ext U151), kr, kr, kr, kr, kr, T151, c144⟩
    ·
     rintro fr153 h153 ⟨ck, hk1, C8, y153_0, y153_5, y153_8, y153_9, y153_10, T153, c144⟩
     have N153 := T153.nx
     have B153_t5 := c144.lt
     refine W_set (k := 0) y153_0 (W_set (k := 5) y153_5 (W_set (k := 8) y153_8 (W_set (k := 9) y153_9 (W_set (k := 10) y153_10 ?_))))
     have U153 : Go.Arm.Sm Nix h153 h153 := .refl
     have hck : ck.n = cc.n + 1 := by rw [hk1, Ce.other_n, Ce.name_n]; rfl
     refine W_seq (W_region (L_ld _ rfl rfl kr (Cl.allN (n := 7) c144 rfl kr) (L_c rfl rfl kr (children_ok (x := x) (p1 := p1) (p2 := p2) (p3 := p3) (n1 := x.a.length) (n2 := x.b.length) (n3 := x.e.length) (c1 := c1) (c2 := c2) (c3 := c3)) ?_)))
     rintro v154 h154 ⟨e154, t154⟩
     try dsimp only at e154 t154
     subst e154
     have T154 : Go.Arm.Sm (CS cb mv mr) h h154 := T153.ext t154
     have U154 : Go.Arm.Sm Nix h153 h154 := U153.ext t154
     have N154 := T154.nx
     have NU154 := U154.nx
     have M154 := t154.nx
     refine L_g 1 kr (L_nil (W_block (W_unroll (W_sg 1 kr (L_nil (W_seq (W_cT kr (W_skip (W_seq ?_)))))))))
     refine W_block (W_sg 2 kr (L_nil (W_rg 2 kr (L_c rfl rfl kr (ih x.a (ck) (by omega) (by have q0 := hck; omega) (Ha.sm T154 (fun b hb => hF b hb) (fun _ => id)) hF (C8.ext U154)) ?_))))
     rintro v155 h155 ⟨e155, C155, t155⟩
     dsimp only at e155 C155 t155
     subst e155
     have T155 : Go.Arm.Sm (CS cb mv mr) h h155 := T154.then t155
     have N155 := T155.nx
     have U155 : Go.Arm.Sm Nix h155 h155 := .refl
     refine L_nil (W_rg 2 kr (L_nil (W_unroll (W_sg 1 kr (L_nil (W_seq (W_cT kr (W_skip ?_))))))))
     refine W_seq (W_block (W_sg 2 kr (L_nil (W_rg 2 kr (L_c rfl rfl kr (ih x.b (cadl ck x.a) (by omega) (by have q0 := cadl_n ck x.a; have q1 := cadl_n (cadl ck x.a) x.b; have q2 := hck; omega) (Hb.sm T155 (fun b hb => hF b hb) (fun _ => id)) hF (C155.ext U155)) ?_)))))
     rintro v156 h156 ⟨e156, C156, t156⟩
     dsimp only at e156 C156 t156
     subst e156
     have T156 : Go.Arm.Sm (CS cb mv mr) h h156 := T155.then t156
     have N156 := T156.nx
     have U156 : Go.Arm.Sm Nix h156 h156 := .refl
     refine L_nil (W_rg 2 kr (L_nil (W_unroll (W_sg 1 kr (L_nil (W_seq (W_cT kr (W_skip ?_))))))))
     refine W_seq (W_block (W_sg 2 kr (L_nil (W_rg 2 kr (L_c rfl rfl kr (ih x.e (cadl (cadl ck x.a) x.b) (by omega) (by have q0 := cadl_n ck x.a; have q1 := cadl_n (cadl ck x.a) x.b; have q2 := hck; omega) (He.sm T156 (fun b hb => hF b hb) (fun _ => id)) hF (C156.ext U156)) ?_)))))
     rintro v157 h157 ⟨e157, C157, t157⟩
     dsimp only at e157 C157 t157
     subst e157
     have T157 : Go.Arm.Sm (CS cb mv mr) h h157 := T156.then t157
     have N157 := T157.nx
     have U157 : Go.Arm.Sm Nix h157 h157 := .refl
     refine L_nil (W_rg 2 kr (L_nil (W_unroll (W_sg 1 kr (L_nil (W_seq (W_cF kr (W_exit ?_))))))))
     refine rx ?_
     refine exit_here (W_region (L_i ((k : Int)) (1) (nv ((k + 1 : Nat) : Int)) rfl rfl kr kr rfl (incT hlt H2) (L_g 1 kr (L_nil ?_))))
     exact ⟨l.length - (k + 1), by omega, k + 1, cad1 cc x, by omega, by rw [← hc, hdr, cadl_cons], by rw [cad1_n, ← hn, hdr, szl]; omega, (by rw [cad1_is, ← hk1]; exact C157.ext U157), rfl, kr, kr, kr, kr, T157⟩
  ·
   have hge : k = l.length := by simp at hb; omega
   rw [hge, List.drop_length, cadl_nil] at hc
   refine W_exit ?_
   refine rx ?_
   refine exit_here ?_
   repeat with_reducible refine blk_norm ?_
   refine done_of (v := .tuple ⟨[]⟩) (.inr rfl) kr ?_
   exact ⟨rfl, (by rw [← hc]; exact CC.ext U143), T143⟩
end
end Go.Proofs.YtlgakeilplnfmaaGreatDoor
namespace Go.Proofs.YtlgakeilplnfmaaGreatDoor
noncomputable section
open Go Go.X Go.Arm Go.Mt Go.Lj
theorem cof_ok {l : List Nd} {F : Nat → Prop} {h : AH} {v : Value} (hn8 : szl l < 1000000) (H : NdS F h v l) (hF : ∀ b, F b → b < h.next) :
  Arm.Calls Tryz.prog 24 [v] h (fun r => ∃ cb mv mr, r.1 = ptr cb ∧ Cen r.2 cb mv mr (cadl Ce.z l) ∧ Go.Arm.Sm Nix h r.2 ∧ h.next ≤ cb ∧ h.next ≤ mv ∧ h.next ≤ mr) := by
 refine Calls_W 12 Tryz.f24 ?_
 have T0 : Sm Nix h h := .refl
 refine W_sg 1 kr (L_nil (W_seq (W_region (L_nw (Al.map) .mp rfl rfl kr ?_))))
 have m158 : Mp (h.push (Al.map).obj) h.next kS rT ([] : List (ByteArray × Bool)) := Mp.new h
 have g158 : Mb (h.push (Al.map).obj) h.next := Mb.new h
 have t158 : Go.Arm.Sm Nix h (h.push (Al.map).obj) := .push h _
 have n158 : (h.push (Al.map).obj).next = h.next + 1 := rfl
 generalize h.push (Al.map).obj = h158 at m158 g158 t158 n158 ⊢
 have T158 := T0.ext t158
 have N158 := T158.nx
 refine L_nw (Al.map) .mp rfl rfl kr ?_
 have m159 : Mp (h158.push (Al.map).obj) h158.next kS rT ([] : List (ByteArray × Bool)) := Mp.new h158
 have g159 : Mb (h158.push (Al.map).obj) h158.next := Mb.new h158
 have t159 : Go.Arm.Sm Nix h158 (h158.push (Al.map).obj) := .push h158 _
 have n159 : (h158.push (Al.map).obj).next = h158.next + 1 := rfl
 generalize h158.push (Al.map).obj = h159 at m159 g159 t159 n159 ⊢
 have m2_159 := m158.sm t159 (fun x => x) (fun _ _ e => e)
 have T159 := T158.ext t159
 have N159 := T159.nx
 have U159 : Go.Arm.Sm Nix h159 h159 := .refl
 refine L_g 1 kr (L_nwc [nv ((0 : Nat) : Int), .map (some (h.next)), .map (some (h158.next))] .ptr rfl rfl kr fun h160 c160 t160 n160 => ?_)
 have T160 := T159.ext t160
 have U160 : Go.Arm.Sm Nix h159 h160 := U159.ext t160
 have N160 := T160.nx
 have NU160 := U160.nx
 refine L_g 1 kr (L_nil (W_seq (W_region (L_g 2 kr ?_))))
 have C9 : Cen h160 (h159.next) (h.next) (h158.next) Ce.z := ⟨c160, m2_159.sm U160 (fun x => x) (fun _ _ e => e), m159.sm U160 (fun x => x) (fun _ _ e => e), g159.sm U160 m159.1 (fun x => x), by omega, by omega, by omega⟩
 refine L_c rfl rfl kr (add_ok (szl l + 1) l Ce.z (by omega) (by show 0 + szl l < 1000000; omega) (H.ext T160) (fun b hb => CS.n (by have := hF b hb; omega) (by have := hF b hb; omega) (by have := hF b hb; omega)) C9) ?_
 rintro v161 h161 ⟨e161, C161, t161⟩
 dsimp only at e161 C161 t161
 subst e161
 replace c160 := c160.lt
 have T161 : Sm Nix h h161 := T160.trans t161 (fun x hx => .inr (by rcases hx with hx | hx | hx <;> omega))
 have N161 := T161.nx
 refine L_nil (W_sg 2 kr (L_nil (W_ret ?_)))
 refine rr ?_
 refine done_of (v := ptr (h159.next)) (.inl rfl) kr ?_
 exact ⟨_, _, _, rfl, C161, T161, by omega, by omega, by omega⟩
theorem check1_ok {F : Nat → Prop} {h : AH} {x : Nd} {c : List Value} (hc : NdC F h x c) : Arm.Calls Tryz.prog 22 [.agg ⟨c⟩] h (fun r => r.1 = .bool (!fm nok 0 x) ∧ Go.Arm.Sm Nix h r.2) := by
 obtain ⟨va, vb, ve, rfl, Ha, Hb, He⟩ := hc.is
 refine Calls_W 6 Tryz.f22 ?_
 have T0 : Sm Nix h h := .refl
 refine W_seq (W_region (L_nwc [nv x.op, nv x.val, .string x.nm, .string x.ot, va, vb, ve] .ptr rfl rfl kr fun h162 c162 t162 n162 => ?_))
 have T162 := T0.ext t162
 have N162 := T162.nx
 refine L_g 1 kr (L_nil (W_seq (W_region (L_ld _ rfl rfl kr (Cl.allN (n := 7) c162 rfl kr) (L_c rfl rfl kr (formed_ok (sz1 x + 1) x 0 (by omega) (Ha.ext T162) (Hb.ext T162) (He.ext T162)) ?_)))))
 rintro v163 h163 ⟨e163, t163⟩
 try dsimp only at e163 t163
 subst e163
 have T163 := T162.ext t163
 have N163 := T163.nx
 have M163 := t163.nx
 refine L_g 2 kr (L_nil (W_ret ?_))
 refine rr ?_
 refine done_of (v := .bool (!fm nok 0 x)) (.inl rfl) kr ?_
 exact ⟨rfl, T163⟩
theorem check_ok {l : List Nd} {F : Nat → Prop} {h : AH} {v : Value} (hfew : dpl 8 l = false → szl l ≤ 300) (H : NdS F h v l) (hF : ∀ b, F b → b < h.next) :
  Arm.Calls Tryz.prog 8 [v] h (fun r => r.1 = nv (chk l) ∧ Go.Arm.Sm Nix h r.2) := by
 refine Calls_W 45 Tryz.f8 ?_
 have T0 : Sm Nix h h := .refl
 refine W_sg 1 kr (L_nil (W_seq (W_sg 1 kr (L_c rfl rfl kr (deep_ok (szl l + 1) l 8 (by omega) (by omega) (H.ext T0)) ?_))))
 rintro v164 h164 ⟨e164, t164⟩
 try dsimp only at e164 t164
 subst e164
 have T164 := T0.ext t164
 have N164 := T164.nx
 have M164 := t164.nx
 refine L_nil ?_
 refine W_cond (dpl 8 l) kr (fun hb => ?_) (fun hb => ?_)
 ·
  have hr : chk l = 10 := by unfold chk; rw [if_pos hb]
  rw [hr]
  refine W_sg 1 kr (L_nil (W_ret ?_))
  refine rr ?_
  refine done_of (v := nv 10) (.inl rfl) kr ?_
  exact ⟨rfl, T164⟩
 ·
  have q1 := hb
  have hsz := hfew hb
  refine W_skip (W_seq (W_seq (W_region (L_g 1 kr ?_))))
  have hcf := cfn_ok (g := 22) (ca := []) (pr := fun y => !fm nok 0 y) (H.ext T164) (fun _ _ => by kernel_rfl) (fun y c hy hc hh tt => check1_ok (NdC.ext tt y c hc))
  refine L_c rfl rfl kr (hcf) ?_
  rintro v165 h165 ⟨e165, t165⟩
  try dsimp only at e165 t165
  subst e165
  have T165 := T164.ext t165
  have N165 := T165.nx
  have M165 := t165.nx
  refine L_nil ?_
  refine W_cond ((l.any fun y => !fm nok 0 y)) kr (fun hb => ?_) (fun hb => ?_)
  ·
   have q2 : fma nok 0 l = false := by rw [fma_any, hb]; rfl
   have hr : chk l = 2 := by unfold chk; rw [if_neg (by rw [q1]; decide), if_pos q2]
   rw [hr]
   refine W_sg 1 kr (L_nil (W_ret ?_))
   refine rr ?_
   refine done_of (v := nv 2) (.inl rfl) kr ?_
   exact ⟨rfl, T165⟩
  ·
   have q2 : fma nok 0 l = true := by rw [fma_any, hb]; rfl
   refine W_skip (W_sg 1 kr (L_c rfl rfl kr (cof_ok (l := l) (by omega) (H.ext T165) (fun b hb => by have := hF b hb; omega)) ?_))
   rintro v166 h166 ⟨cb, mv, mr, e166, C166, t166, l1, l2, l3⟩
   try dsimp only at t166
   dsimp only at e166 C166 t166 l1 l2 l3
   subst e166
   have T166 := T165.ext t166
   have N166 := T166.nx
   have M166 := t166.nx
   refine L_g 1 kr (L_nil (W_seq (W_sg 3 kr (L_ld _ rfl rfl kr ((C166).cl.ld (o := 2) kr rfl) ?_))))
   obtain ⟨lt1, lt2, lt3⟩ := C166.lt
   obtain ⟨h167, e167, ⟨m0, hI0⟩, t167, n167⟩ := Itr.start (P := Tryz.prog) (T := 75) (kt := 9) (el := 4) kr C166.rs C166.ag
   refine L_rg _ rfl rfl kr e167 ?_
   have C167 := C166.ext t167
   have T167 := T166.ext t167
   have N167 := T167.nx
   refine L_nil (W_block ?_)
   refine W_loop (fun mm fr hh => ∃ dn : Nat → Prop, Itr hh (h166.next) mr kS rT (cadl Ce.z l).rs dn mm ∧ Go.Arm.Sm Nix h hh ∧ Cen hh cb mv mr (cadl Ce.z l) ∧ (∀ i x, (cadl Ce.z l).rs[i]? = some x → dn i → (kget (cadl Ce.z l).vs x.1).isSome = false) ∧ fr 3 = ptr cb ∧ fr 15 = .pointer (some ⟨h166.next, 0, none⟩)) (m0) ?_ ?_
   ·
    exact ⟨_, hI0, T167, C167, fun i x _ hd => hd.elim, kr, kr⟩
   clear hI0
   rintro mm fr hh ⟨dn, hI, TL, CL, hdn, y3, y15⟩
   refine W_set (k := 3) y3 (W_set (k := 15) y15 ?_)
   have NL := TL.nx
   obtain ⟨lt4, lt5, lt6⟩ := CL.lt
   refine W_seq (W_region ?_)
   refine L_nx rfl rfl kr hI (fun hall => ?_) (fun ie e vnx cnx hnx hie hndn hRv hcl hInx tnx nnx henx => ?_)
   ·
    have q3 : (cadl Ce.z l).both = false := by
     unfold Ce.both
     rw [List.any_eq_false]
     intro e he
     obtain ⟨i, hi, hie⟩ := List.getElem_of_mem he
     have hg : (cadl Ce.z l).rs[i]? = some e := by rw [List.getElem?_eq_getElem hi, hie]
     have := hdn i e hg (hall i hi)
     simp [this]
    have hll := cadl_len Ce.z l
    have hnn := cadl_n Ce.z l
    have z1 : Ce.z.n = 0 := rfl
    have z2 : Ce.z.vs.length + Ce.z.rs.length = 0 := rfl
    have hr0 : chk l = if (cadl Ce.z l).n > 1000 ∨ (cadl Ce.z l).vs.length + (cadl Ce.z l).rs.length > 32 then 9 else 0 := by unfold chk; rw [if_neg (by rw [q1]; decide), if_neg (by rw [q2]; decide), if_neg (by rw [q3]; decide)]
    rw [hr0]
    refine L_g 1 kr (L_nil (W_seq (W_cF kr (W_exit ?_))))
    refine rx ?_
    refine exit_here (W_seq (W_seq ?_))
    have h3 : (cadl Ce.z l).n > 1000 ∨ (¬ (cadl Ce.z l).n > 1000 ∧ (cadl Ce.z l).vs.length + (cadl Ce.z l).rs.length > 32) ∨ (¬ (cadl Ce.z l).n > 1000 ∧ ¬ (cadl Ce.z l).vs.length + (cadl Ce.z l).rs.length > 32) := by omega
    rcases h3 with q4 | ⟨q4, q5⟩ | ⟨q4, q5⟩
    ·
     rw [if_pos (.inl q4)]
     refine W_drawn kr (D_l (l := [0,1,2,3,4,5,6,7,8,9,10,11,12,13,14,15,16,17,18]) kr kr Rk_nil (NS_b 3 kr (NS_ld _ rfl rfl kr kr kr ((CL).cl.ld (o := 0) kr rfl) (NS_i (((cadl Ce.z l).n : Int)) (1000) (.bool true) rfl rfl kr kr kr kr rfl (by simp; omega) (NS_b 14 kr (NS_nil (W_cT kr (W_sg 1 kr (L_nil ?_)))))))))
     refine W_ret ?_
     refine rr ?_
     refine done_of (v := nv 9) (.inl rfl) kr ?_
     exact ⟨rfl, TL⟩
    ·
     rw [if_pos (.inr q5)]
     refine W_drawn kr (D_l (l := [0,1,2,3,4,5,6,7,8,9,10,11,12,13,14,15,16,17,18]) kr kr Rk_nil (NS_b 3 kr (NS_ld _ rfl rfl kr kr kr ((CL).cl.ld (o := 0) kr rfl) (NS_i (((cadl Ce.z l).n : Int)) (1000) (.bool false) rfl rfl kr kr kr kr rfl (by simp; omega) (NS_b 4 kr (NS_ld _ rfl rfl kr kr kr ((CL).cl.ld (o := 1) kr rfl) (NS_ln _ rfl rfl kr kr kr ((CL).vs.len (P := Tryz.prog) (T := 75) (kt := 9) (el := 4) kr) (NS_b 3 kr (NS_ld _ rfl rfl kr kr kr ((CL).cl.ld (o := 2) kr rfl) (NS_ln _ rfl rfl kr kr kr ((CL).rs.len (P := Tryz.prog) (T := 75) (kt := 9) (el := 4) kr) (NS_i (((cadl Ce.z l).vs.length : Int)) (((cadl Ce.z l).rs.length : Int)) (nv (((cadl Ce.z l).vs.length : Int) + ((cadl Ce.z l).rs.length : Int))) rfl rfl kr kr kr kr rfl (wrap_id (by omega) (by omega)) ?_)))))))))))
     refine NS_i ((((cadl Ce.z l).vs.length : Int) + ((cadl Ce.z l).rs.length : Int))) (32) (.bool true) rfl rfl kr kr kr kr rfl (by simp; omega) (NS_b 1 kr (NS_nil (W_cT kr (W_sg 1 kr (L_nil (W_ret ?_))))))
     refine rr ?_
     refine done_of (v := nv 9) (.inl rfl) kr ?_
     exact ⟨rfl, TL⟩
    ·
     rw [if_neg (by omega)]
     refine W_drawn kr (D_l (l := [0,1,2,3,4,5,6,7,8,9,10,11,12,13,14,15,16,17,18]) kr kr Rk_nil (NS_b 3 kr (NS_ld _ rfl rfl kr kr kr ((CL).cl.ld (o := 0) kr rfl) (NS_i (((cadl Ce.z l).n : Int)) (1000) (.bool false) rfl rfl kr kr kr kr rfl (by simp; omega) (NS_b 4 kr (NS_ld _ rfl rfl kr kr kr ((CL).cl.ld (o := 1) kr rfl) (NS_ln _ rfl rfl kr kr kr ((CL).vs.len (P := Tryz.prog) (T := 75) (kt := 9) (el := 4) kr) (NS_b 3 kr (NS_ld _ rfl rfl kr kr kr ((CL).cl.ld (o := 2) kr rfl) (NS_ln _ rfl rfl kr kr kr ((CL).rs.len (P := Tryz.prog) (T := 75) (kt := 9) (el := 4) kr) (NS_i (((cadl Ce.z l).vs.length : Int)) (((cadl Ce.z l).rs.length : Int)) (nv (((cadl Ce.z l).vs.length : Int) + ((cadl Ce.z l).rs.length : Int))) rfl rfl kr kr kr kr rfl (wrap_id (by omega) (by omega)) ?_)))))))))))
     refine NS_i ((((cadl Ce.z l).vs.length : Int) + ((cadl Ce.z l).rs.length : Int))) (32) (.bool false) rfl rfl kr kr kr kr rfl (by simp; omega) (NS_b 1 kr (NS_nil (W_cF kr (W_skip (W_sg 1 kr (L_nil (W_ret ?_)))))))
     refine rr ?_
     refine done_of (v := nv 0) (.inl rfl) kr ?_
     exact ⟨rfl, TL⟩
   ·
    have Tnx : Go.Arm.Sm Nix h hnx := TL.trans tnx (fun b hb => .inr (by have hb : b = h166.next := hb; omega))
    have Nnx := Tnx.nx
    have Cnx := CL.sm tnx (show ¬ cb = h166.next by omega) (show ¬ mv = h166.next by omega) (show ¬ mr = h166.next by omega)
    refine L_g 1 kr (L_nil (W_seq (W_cT kr (W_skip (W_block (W_seq (W_region (L_p (.tuple ⟨[kS e.1, vnx]⟩) rfl (by exact henx) (L_g 2 kr (L_nil (W_seq ?_)))))))))))
    refine W_rg 3 kr (L_ld _ rfl rfl kr ((Cnx).cl.ld (o := 1) kr rfl) (L_g 1 kr (L_lk _ rfl rfl kr kr (lookB Cnx.vs (P := Tryz.prog) (T := 75) (kt := 9) (el := 4) kr kStr kr e.1) (L_nil ?_))))
    refine W_cond ((kget (cadl Ce.z l).vs e.1).isSome) kr (fun hb => ?_) (fun hb => ?_)
    ·
     have q3 : (cadl Ce.z l).both = true := by
      unfold Ce.both
      rw [List.any_eq_true]
      exact ⟨e, List.mem_of_getElem? hie, hb⟩
     have hr : chk l = 2 := by unfold chk; rw [if_neg (by rw [q1]; decide), if_neg (by rw [q2]; decide), if_pos q3]
     rw [hr]
     refine W_sg 1 kr (L_nil (W_ret ?_))
     refine rr ?_
     refine done_of (v := nv 2) (.inl rfl) kr ?_
     exact ⟨rfl, Tnx⟩
    ·
     have hno : (kget (cadl Ce.z l).vs e.1).isSome = false := hb
     refine W_skip ?_
     exact ⟨cnx, hcl, _, hInx, Tnx, Cnx, fun i x hx hd => by
      rcases hd with rfl | hd
      · rw [hx] at hie; cases hie; exact hno
      · exact hdn i x hx hd, kr, kr⟩
end
end Go.Proofs.YtlgakeilplnfmaaGreatDoor
namespace Go.Lj
noncomputable section
open Go Go.X Go.Arm
def insc (i : Ins) : List Value := [nv i.op, nv i.arg, .string i.nm, .string i.ot]
theorem insc_one (i : Ins) : ∀ v, v ∈ insc i → v.oneCell' = true := List.all_eq_true.1 rfl
theorem flat4 (c : List Ins) : (c.flatMap insc).length = c.length * 4 := flat_len insc (fun _ => rfl) c
theorem flat4_set {c : List Ins} {j : Nat} {x : Ins} {z : Int} (hj : c[j]? = some x) : (c.flatMap insc).set (j * 4 + 1) (nv z) = (c.set j { x with arg := z }).flatMap insc := by
 apply List.ext_getElem?
 intro i
 have hl := (List.getElem?_eq_some_iff.1 hj).1
 have hi4 : i / 4 * 4 + i % 4 = i := by omega
 rw [List.getElem?_set]
 rw [← hi4, flat_get insc (fun _ => rfl) c (i / 4) (i % 4) (by omega), flat_get insc (fun _ => rfl) (c.set j { x with arg := z }) (i / 4) (i % 4) (by omega), List.getElem?_set]
 by_cases e : j = i / 4
 · rw [← e, if_pos rfl, if_pos hl, hj]
   by_cases e2 : i % 4 = 1
   · rw [e2, if_pos rfl, if_pos (by rw [flat4]; omega)]; rfl
   · rw [if_neg (by omega)]
     have h4 : i % 4 = 0 ∨ i % 4 = 2 ∨ i % 4 = 3 := by omega
     rcases h4 with h | h | h <;> rw [h] <;> rfl
 · rw [if_neg e, if_neg (by omega)]
variable {P : Program} {h h' h0 h1 h2 : AH} {c d : List Ins} {u v w : Value} {T el sT xT IT : TypeId}
structure Em (h0 : AH) (u : Value) (h : AH) (v : Value) (c : List Ins) : Prop where
 gr : Gr h 4 v c.length (c.flatMap insc)
 sm : Go.Arm.Sm (fun b => vb u = some b) h0 h
 fr : ∀ b, vb v = some b → vb u = some b ∨ h0.next ≤ b
theorem Em.refl (g : Gr h 4 v c.length (c.flatMap insc)) : Em h v h v c := ⟨g, .refl, fun _ hb => .inl hb⟩
theorem Em.ext (E : Em h0 u h v c) (s : Go.Arm.Sm Nix h h') : Em h0 u h' v c := ⟨E.gr.ext s, E.sm.ext s, E.fr⟩
theorem Em.lt (E : Em h0 u h v c) {b : Nat} (hb : vb v = some b) : b < h.next := E.gr.sd.lt hb
theorem Em.trans (A : Em h0 u h v c) (B : Em h v h' w d) : Em h0 u h' w d :=
 ⟨B.gr, A.sm.trans B.sm (fun x hx => A.fr x hx), fun b hb => (B.fr b hb).elim (fun e => A.fr b e) (fun e => .inr (Nat.le_trans A.sm.nx e))⟩
theorem Em.len (E : Em h0 u h v c) (hT : P.underlying T = some (.slice el)) : aLen P T v h = some (.int .i64 (c.length : Int)) := E.gr.lenV hT
theorem Em.app {by_ : Nat} {z x : Value} {i : Ins} (E : Em h0 u h v c) (hT : P.underlying sT = some (.slice el)) (hx : newsK P xT = .list) (hs : szOf P el = some 4) (hb : byOf P el = some by_) (hz : zeroOf P el = some z) (hzl : (cellsL z).length = 4)
  (hu : Sd h 4 x 1 (insc i)) (hlim : (c.length + 1) * (by_ + 1) < 1099511627776) (hu8 : isU8 P el = none := by kernel_rfl) :
  ∃ v' h', aAppend P sT xT v x h = some (v', h') ∧ Em h v h' v' (c ++ [i]) := by
 obtain ⟨v', h', e, g, s, f⟩ := E.gr.append hT hx hs hb hz hzl (by decide) hu (insc_one i) hlim hu8
 refine ⟨v', h', e, ⟨?_, s, f⟩⟩
 rw [List.flatMap_append, List.length_append]
 simpa using g
theorem Em.set {j : Nat} {x : Ins} {z : Int} (E : Em h0 u h v c) (hT : P.underlying T = some (.slice el)) (hk : szOf P el = some 4) (hI : szOf P IT = some 1) (hj : c[j]? = some x) :
   ∃ b o h', aIndex P T v (.int .i64 (j : Int)) = some (.pointer (some ⟨b, o, none⟩)) ∧ aStore P IT ⟨b, o + 1, none⟩ (nv z) h = some h' ∧ Em h v h' v (c.set j { x with arg := z }) := by
 have hl := (List.getElem?_eq_some_iff.1 hj).1
 obtain ⟨b, o, cc, nn, rfl, hb, hm, hn, hc⟩ := E.gr.open (by omega)
 obtain ⟨h', cc', a1, a2, a3, a4, a5⟩ := setcs_of (b := b) (o := o + j * 4 + 1) (nn := nn) (op := 4) [nv z] 0 hm (by simp only [List.length_singleton]; omega) (List.all_eq_true.1 rfl)
 refine ⟨b, o + j * 4, h', ?_, ?_, ⟨?_, ⟨by rw [a4]; exact Nat.le_refl _, fun k _ hk => a5 k (fun e => hk (by rw [e]; rfl))⟩, fun q hq => .inl hq⟩⟩
 · unfold aIndex
   simp only [hT, hk]
   rw [if_pos ⟨open_ne, by omega, by omega⟩]
   simp
 · unfold aStore
   have : cellsL (nv z) = [nv z] := rfl
   simp only [hI, this, List.length_singleton, if_true]
   exact a1
 · rw [List.length_set, ← flat4_set hj]
   refine ⟨by rw [List.length_set, flat4], .inr ⟨b, o, cc', nn, rfl, by rw [a4]; exact hb, a2, by decide, hn, fun k hk => ?_⟩⟩
   rw [a3, List.getElem?_set]
   rw [List.length_set] at hk
   simp only [List.length_singleton, Nat.add_zero]
   by_cases e : j * 4 + 1 = k
   · subst e
     rw [if_pos (by omega), if_pos rfl, if_pos hk]
     have : o + (j * 4 + 1) - (o + j * 4 + 1) = 0 := by omega
     rw [this]; rfl
   · rw [if_neg (by omega), if_neg e]
     exact hc k hk
mutual
def wf1 : Nd → Prop
 | .mk op val _ _ a b e => (op = 3 ∨ op = 5 → val = 0 ∧ a.length = 2) ∧ wfl a ∧ wfl b ∧ wfl e
def wfl : List Nd → Prop
 | [] => True
 | x :: l => wf1 x ∧ wfl l
end
theorem wf1_is {x : Nd} (h : wf1 x) : (x.op = 3 ∨ x.op = 5 → x.val = 0 ∧ x.a.length = 2) ∧ wfl x.a ∧ wfl x.b ∧ wfl x.e := by cases x; unfold wf1 at h; exact h
theorem wfl_at : ∀ {l : List Nd} {i : Nat} {x : Nd}, wfl l → l[i]? = some x → wf1 x
 | [], i, x, _, h => by simp at h
 | y :: l, 0, x, hw, h => by simp at h; subst h; unfold wfl at hw; exact hw.1
 | y :: l, i + 1, x, hw, h => by unfold wfl at hw; rw [List.getElem?_cons_succ] at h; exact wfl_at hw.2 h
theorem wfl_one {x : Nd} (h : wf1 x) : wfl [x] := by unfold wfl; exact ⟨h, by unfold wfl; trivial⟩
theorem forms_rv {op : Int} {f : Fo} (h : forms op = some f) (ho : op = 3 ∨ op = 5) : f.args = 2 := by
 rcases ho with rfl | rfl
 · rw [show forms 3 = some ⟨2, true, false, false, false⟩ from rfl] at h; cases h; rfl
 · rw [show forms 5 = some ⟨2, true, true, false, false⟩ from rfl] at h; cases h; rfl
mutual
theorem wf_fm {nok : ByteArray → Bool} : ∀ (x : Nd) (pl : Nat), fm nok pl x = true → wf1 x
 | .mk op val nm ot a b e, pl, hf => by
  obtain ⟨f, f1, f2, f3, f4, f5, f6, f7, f8, f9, f10⟩ := fm_is hf
  unfold wf1
  refine ⟨fun ho => ⟨fitv0 f7 (by omega) (by omega) (by omega), by rw [f4, forms_rv f1 ho]⟩, wf_fma a _ f8, wf_fma b _ f9, wf_fma e _ f10⟩
theorem wf_fma {nok : ByteArray → Bool} : ∀ (l : List Nd) (pl : Nat), fma nok pl l = true → wfl l
 | [], _, _ => by unfold wfl; trivial
 | x :: l, pl, h => by
  obtain ⟨h1, h2⟩ := fma_cons.1 h
  unfold wfl
  exact ⟨wf_fm x pl h1, wf_fma l pl h2⟩
end
mutual
theorem cg1_len : ∀ (n : Nat) (x : Nd), (cg1 n x).length ≤ 2 * sz1 x
 | n, .mk op val nm ot a b e => by
  have ha := cga_len n a
  unfold cg1
  rw [sz1]
  dsimp only
  have hb := cgs_len (n + (cga n a).length + 1) b
  have he := cgs_len (n + (cga n a).length + 1 + (cgs (n + (cga n a).length + 1) b).length + 1) e
  split
  · split
    · split <;> simp <;> omega
    · simp; omega
  · simp; omega
theorem cgs_len : ∀ (n : Nat) (l : List Nd), (cgs n l).length ≤ 2 * szl l
 | n, [] => by rw [cgs_nil]; simp
 | n, x :: l => by
  rw [cgs_cons, szl, List.length_append]
  have h1 := cg1_len n x
  have h2 := cgs_len (n + (cg1 n x).length) l
  omega
theorem cga_len : ∀ (n : Nat) (l : List Nd), (cga n l).length ≤ 2 * szl l
 | n, [] => by rw [cga_nil]; simp
 | n, x :: l => by
  rw [cga_cons, szl]
  have h1 := cg1_len n x
  have h2 := cga_len (n + (cg1 n x).length) l
  have h3 := cga_len n l
  split
  · omega
  · rw [List.length_append]; omega
end
theorem cgs_one (n : Nat) (x : Nd) : cgs n [x] = cg1 n x := by rw [cgs_cons, cgs_nil, List.append_nil]
theorem get_mid {A B C D : List Ins} {z : Ins} (h1 : B = A ++ [z]) (h2 : C = B ++ D) : C[A.length]? = some z := by
 subst h1; subst h2; simp
theorem set_mid {A D : List Ins} {z y : Ins} : (A ++ [z] ++ D).set A.length y = A ++ [y] ++ D := by simp
section
variable {x : Nd} {c c2 d1 d2 d3 d4 d5 d6 : List Ins}
abbrev z10 : Ins := ⟨10, 0, emp, emp⟩
theorem e_one (ho : ¬ (x.op = 12 ∨ x.op = 13)) (h2 : c2 = c ++ cga c.length x.a) (h3 : d1 = c2 ++ [ins1 x]) : d1 = c ++ cg1 c.length x := by
 obtain ⟨op, val, nm, ot, a, b, e⟩ := x
 unfold cg1
 have ho : ¬ (op = 12 ∨ op = 13) := ho
 dsimp only
 rw [if_neg ho, h3, h2, List.append_assoc]
 rfl
theorem e_if (ho : x.op = 12) (he : x.e = []) (h2 : c2 = c ++ cga c.length x.a) (h3 : d1 = c2 ++ [z10]) (h4 : d2 = d1 ++ cgs d1.length x.b) (h5 : d3 = d2.set c2.length { z10 with arg := (d2.length : Int) }) : d3 = c ++ cg1 c.length x := by
 obtain ⟨op, val, nm, ot, a, b, e⟩ := x
 have ho : op = 12 := ho
 have he : e = [] := he
 subst ho he
 unfold cg1
 dsimp only [Nd.a, Nd.b, Nd.e] at *
 rw [if_pos (.inl rfl), if_pos rfl, if_neg (by decide)]
 subst h5 h4 h3
 rw [set_mid, h2]
 simp [Nat.add_assoc]
 omega
theorem e_while (ho : x.op = 13) (he : x.e = []) (h2 : c2 = c ++ cga c.length x.a) (h3 : d1 = c2 ++ [z10]) (h4 : d2 = d1 ++ cgs d1.length x.b) (h5 : d3 = d2 ++ [⟨9, (c.length : Int), emp, emp⟩]) (h6 : d4 = d3.set c2.length { z10 with arg := (d3.length : Int) }) : d4 = c ++ cg1 c.length x := by
 obtain ⟨op, val, nm, ot, a, b, e⟩ := x
 have ho : op = 13 := ho
 have he : e = [] := he
 subst ho he
 unfold cg1
 dsimp only [Nd.a, Nd.b, Nd.e] at *
 rw [if_pos (.inr rfl), if_pos rfl, if_pos rfl]
 subst h6 h5 h4 h3
 rw [List.append_assoc (c2 ++ [z10]), set_mid, h2]
 simp [Nat.add_assoc]
 omega
theorem e_else (ho : x.op = 12 ∨ x.op = 13) (he : x.e ≠ []) (h2 : c2 = c ++ cga c.length x.a) (h3 : d1 = c2 ++ [z10]) (h4 : d2 = d1 ++ cgs d1.length x.b) (h5 : d3 = d2 ++ [⟨9, (c.length : Int), emp, emp⟩]) (h6 : d4 = d3.set c2.length { z10 with arg := (d3.length : Int) })
  (h7 : d5 = d4 ++ cgs d4.length x.e) (h8 : d6 = d5.set d2.length { (⟨9, (c.length : Int), emp, emp⟩ : Ins) with arg := (d5.length : Int) }) : d6 = c ++ cg1 c.length x := by
 have hd4 : d4 = d1.set c2.length { z10 with arg := (d3.length : Int) } ++ cgs d1.length x.b ++ [⟨9, (c.length : Int), emp, emp⟩] := by
  rw [h6, h5, h4, h3, List.append_assoc (c2 ++ [z10]), set_mid]
  simp
 have hl : d2.length = (d1.set c2.length { z10 with arg := (d3.length : Int) } ++ cgs d1.length x.b).length := by rw [h4]; simp
 rw [h8, h7, hd4, hl, set_mid, h3]
 obtain ⟨op, val, nm, ot, a, b, e⟩ := x
 have ho : op = 12 ∨ op = 13 := ho
 have he : e ≠ [] := he
 unfold cg1
 dsimp only [Nd.a, Nd.b, Nd.e] at *
 rw [if_pos ho, if_neg he]
 have e3 : d3.length = c.length + (cga c.length a).length + 1 + (cgs (c.length + (cga c.length a).length + 1) b).length + 1 := by rw [h5, h4, h3, h2]; simp [Nat.add_assoc]; omega
 rw [e3, h2]
 have e5 : ∀ X : Nat, 1 + (X + 1) = X + 2 := fun X => by omega
 simp [Nat.add_assoc, e5]
 omega
theorem get_jmp {z w : Ins} {y : Ins} {B : List Ins} (h3 : d1 = c2 ++ [z]) (h4 : d2 = d1 ++ B) (h5 : d3 = d2 ++ [w]) (h6 : d4 = d3.set c2.length y) {E : List Ins} (h7 : d5 = d4 ++ E) : d5[d2.length]? = some w := by
 have hd4 : d4 = (c2 ++ [y] ++ B) ++ [w] := by
  rw [h6, h5, h4, h3, List.append_assoc (c2 ++ [z]), set_mid]
  simp
 have hl : d2.length = (c2 ++ [y] ++ B).length := by rw [h4, h3]; simp
 rw [h7, hd4, hl]
 exact get_mid rfl rfl
end
theorem emit_step {x : Nd} {l : List Nd} {k : Nat} {c c' c3 : List Ins} (hdr : l.drop k = x :: l.drop (k + 1)) (hc : c' ++ cgs c'.length (l.drop k) = c ++ cgs c.length l) (e : c3 = c' ++ cg1 c'.length x) : c3 ++ cgs c3.length (l.drop (k + 1)) = c ++ cgs c.length l := by
 rw [← hc, hdr, cgs_cons, e, List.length_append, List.append_assoc]
theorem emit_arg {y : Nd} {l : List Nd} {j : Nat} {c c2 c3 : List Ins} (hdr : l.drop j = y :: l.drop (j + 1)) (hc : c2 ++ cga c2.length (l.drop j) = c ++ cga c.length l) (hy : y.op ≠ 24) (e : c3 = c2 ++ cgs c2.length [y]) : c3 ++ cga c3.length (l.drop (j + 1)) = c ++ cga c.length l := by
 rw [← hc, hdr, cga_cons, if_neg hy, e, cgs_one, List.length_append, List.append_assoc]
theorem emit_any {y : Nd} {l : List Nd} {j : Nat} {c c2 : List Ins} (hdr : l.drop j = y :: l.drop (j + 1)) (hc : c2 ++ cga c2.length (l.drop j) = c ++ cga c.length l) (hy : y.op = 24) : c2 ++ cga c2.length (l.drop (j + 1)) = c ++ cga c.length l := by
 rw [← hc, hdr, cga_cons, if_pos hy]
def okI (i : Ins) : Prop := 1 ≤ i.op ∧ i.op ≤ 21 ∧ (i.op = 12 ∨ i.op = 14 → 0 ≤ i.arg ∧ i.arg ≤ 3)
theorem chk_ok {l : List Nd} (h : chk l = 0) : dpl 8 l = false ∧ fma nok 0 l = true := by
 unfold chk at h
 split at h
 · cases h
 · rename_i h1
   split at h
   · cases h
   · rename_i h2
     exact ⟨by simpa using h1, by simpa using h2⟩
end
end Go.Lj
namespace Go.Proofs.YtlgakeilplnfmaaGreatDoor
noncomputable section
open Go Go.X Go.Arm Go.Mt Go.Lj
def imap : List (Int × Value) := [(20, nv 1), (21, nv 2), (22, nv 4), (23, nv 5), (25, nv 6), (26, nv 7), (1, nv 3), (2, nv 11), (3, nv 12), (4, nv 13), (5, nv 14), (6, nv 15), (7, nv 16), (8, nv 17), (9, nv 18), (10, nv 19), (11, nv 20)]
theorem imap_get (op : Int) : kget imap op = (insOp op).map nv := by
 unfold imap insOp
 by_cases k20 : op = 20
 · subst k20; exact kget_is
 rw [kget_no k20, if_neg k20]
 by_cases k21 : op = 21
 · subst k21; exact kget_is
 rw [kget_no k21, if_neg k21]
 by_cases k22 : op = 22
 · subst k22; exact kget_is
 rw [kget_no k22, if_neg k22]
 by_cases k23 : op = 23
 · subst k23; exact kget_is
 rw [kget_no k23, if_neg k23]
 by_cases k25 : op = 25
 · subst k25; exact kget_is
 rw [kget_no k25, if_neg k25]
 by_cases k26 : op = 26
 · subst k26; exact kget_is
 rw [kget_no k26, if_neg k26]
 by_cases k1 : op = 1
 · subst k1; exact kget_is
 rw [kget_no k1, if_neg k1]
 by_cases k2 : op = 2
 · subst k2; exact kget_is
 rw [kget_no k2, if_neg k2]
 by_cases k3 : op = 3
 · subst k3; exact kget_is
 rw [kget_no k3, if_neg k3]
 by_cases k4 : op = 4
 · subst k4; exact kget_is
 rw [kget_no k4, if_neg k4]
 by_cases k5 : op = 5
 · subst k5; exact kget_is
 rw [kget_no k5, if_neg k5]
 by_cases k6 : op = 6
 · subst k6; exact kget_is
 rw [kget_no k6, if_neg k6]
 by_cases k7 : op = 7
 · subst k7; exact kget_is
 rw [kget_no k7, if_neg k7]
 by_cases k8 : op = 8
 · subst k8; exact kget_is
 rw [kget_no k8, if_neg k8]
 by_cases k9 : op = 9
 · subst k9; exact kget_is
 rw [kget_no k9, if_neg k9]
 by_cases k10 : op = 10
 · subst k10; exact kget_is
 rw [kget_no k10, if_neg k10]
 by_cases k11 : op = 11
 · subst k11; exact kget_is
 rw [kget_no k11, if_neg k11]
 rfl
theorem inst_ok {x : Nd} {F : Nat → Prop} {h : AH} {va vb ve : Value} (h35 : x.op = 3 ∨ x.op = 5 → x.val = 0 ∧ x.a.length = 2) (Ha : NdS F h va x.a) (Hb : NdS F h vb x.b) (He : NdS F h ve x.e) :
  Arm.Calls Tryz.prog 58 [.agg ⟨x.c7 va vb ve⟩] h (fun r => r.1 = .agg ⟨insc (ins1 x)⟩ ∧ Go.Arm.Sm Nix h r.2) := by
 obtain ⟨p1, c1, rfl⟩ := Ha.form
 obtain ⟨p2, c2, rfl⟩ := Hb.form
 obtain ⟨p3, c3, rfl⟩ := He.form
 cases hi : insOp x.op with
 | none =>
  refine Calls_W 56 Tryz.f58 ?_
  have T0 : Sm Nix h h := .refl
  refine W_seq (W_region (L_nwc [nv x.op, nv x.val, .string x.nm, .string x.ot, .slice p1 x.a.length c1, .slice p2 x.b.length c2, .slice p3 x.e.length c3] .ptr rfl rfl kr fun h170 c170 t170 n170 => ?_))
  have T170 := T0.ext t170
  have N170 := T170.nx
  refine L_nwc [nv 0, nv 0, .string ⟨#[]⟩, .string ⟨#[]⟩] .ptr rfl rfl kr fun h171 c171 t171 n171 => ?_
  replace c170 := c170.ext t171
  have T171 := T170.ext t171
  have N171 := T171.nx
  refine L_nil (W_seq (W_region (L_nw (Al.map) .mp rfl rfl kr ?_)))
  have m172 : Mp (h171.push (Al.map).obj) h171.next nv (fun (v : Value) (y : Value) => v = y) ([] : List (Int × Value)) := Mp.new h171
  have t172 : Sm Nix h171 (h171.push (Al.map).obj) := .push h171 _
  have n172 : (h171.push (Al.map).obj).next = h171.next + 1 := rfl
  generalize h171.push (Al.map).obj = h172 at m172 t172 n172 ⊢
  replace c170 := c170.ext t172
  replace c171 := c171.ext t172
  have T172 := T171.ext t172
  have N172 := T172.nx
  obtain ⟨h173, e173, d173, t173, n173⟩ := m172.update (P := Tryz.prog) (T := 170) (el := 3) kr kInt 20 (v := nv 1) (y := nv 1) rfl
  refine L_in h173 rfl rfl rfl kr kr kr e173 ?_
  replace c170 := c170.sn t173
  replace c171 := c171.sn t173
  have T173 : Sm Nix h h173 := T172.trans t173 (fun x hx => .inr (by have hx : x = h171.next := hx; omega))
  have N173 := T173.nx
  obtain ⟨h174, e174, d174, t174, n174⟩ := d173.update (P := Tryz.prog) (T := 170) (el := 3) kr kInt 21 (v := nv 2) (y := nv 2) rfl
  refine L_in h174 rfl rfl rfl kr kr kr e174 ?_
  replace c170 := c170.sn t174
  replace c171 := c171.sn t174
  have T174 : Sm Nix h h174 := T173.trans t174 (fun x hx => .inr (by have hx : x = h171.next := hx; omega))
  have N174 := T174.nx
  obtain ⟨h175, e175, d175, t175, n175⟩ := d174.update (P := Tryz.prog) (T := 170) (el := 3) kr kInt 22 (v := nv 4) (y := nv 4) rfl
  refine L_in h175 rfl rfl rfl kr kr kr e175 ?_
  replace c170 := c170.sn t175
  replace c171 := c171.sn t175
  have T175 : Sm Nix h h175 := T174.trans t175 (fun x hx => .inr (by have hx : x = h171.next := hx; omega))
  have N175 := T175.nx
  obtain ⟨h176, e176, d176, t176, n176⟩ := d175.update (P := Tryz.prog) (T := 170) (el := 3) kr kInt 23 (v := nv 5) (y := nv 5) rfl
  refine L_in h176 rfl rfl rfl kr kr kr e176 ?_
  replace c170 := c170.sn t176
  replace c171 := c171.sn t176
  have T176 : Sm Nix h h176 := T175.trans t176 (fun x hx => .inr (by have hx : x = h171.next := hx; omega))
  have N176 := T176.nx
  obtain ⟨h177, e177, d177, t177, n177⟩ := d176.update (P := Tryz.prog) (T := 170) (el := 3) kr kInt 25 (v := nv 6) (y := nv 6) rfl
  refine L_in h177 rfl rfl rfl kr kr kr e177 ?_
  replace c170 := c170.sn t177
  replace c171 := c171.sn t177
  have T177 : Sm Nix h h177 := T176.trans t177 (fun x hx => .inr (by have hx : x = h171.next := hx; omega))
  have N177 := T177.nx
  obtain ⟨h178, e178, d178, t178, n178⟩ := d177.update (P := Tryz.prog) (T := 170) (el := 3) kr kInt 26 (v := nv 7) (y := nv 7) rfl
  refine L_in h178 rfl rfl rfl kr kr kr e178 ?_
  replace c170 := c170.sn t178
  replace c171 := c171.sn t178
  have T178 : Sm Nix h h178 := T177.trans t178 (fun x hx => .inr (by have hx : x = h171.next := hx; omega))
  have N178 := T178.nx
  obtain ⟨h179, e179, d179, t179, n179⟩ := d178.update (P := Tryz.prog) (T := 170) (el := 3) kr kInt 1 (v := nv 3) (y := nv 3) rfl
  refine L_in h179 rfl rfl rfl kr kr kr e179 ?_
  replace c170 := c170.sn t179
  replace c171 := c171.sn t179
  have T179 : Sm Nix h h179 := T178.trans t179 (fun x hx => .inr (by have hx : x = h171.next := hx; omega))
  have N179 := T179.nx
  obtain ⟨h180, e180, d180, t180, n180⟩ := d179.update (P := Tryz.prog) (T := 170) (el := 3) kr kInt 2 (v := nv 11) (y := nv 11) rfl
  refine L_in h180 rfl rfl rfl kr kr kr e180 ?_
  replace c170 := c170.sn t180
  replace c171 := c171.sn t180
  have T180 : Sm Nix h h180 := T179.trans t180 (fun x hx => .inr (by have hx : x = h171.next := hx; omega))
  have N180 := T180.nx
  obtain ⟨h181, e181, d181, t181, n181⟩ := d180.update (P := Tryz.prog) (T := 170) (el := 3) kr kInt 3 (v := nv 12) (y := nv 12) rfl
  refine L_in h181 rfl rfl rfl kr kr kr e181 ?_
  replace c170 := c170.sn t181
  replace c171 := c171.sn t181
  have T181 : Sm Nix h h181 := T180.trans t181 (fun x hx => .inr (by have hx : x = h171.next := hx; omega))
  have N181 := T181.nx
  obtain ⟨h182, e182, d182, t182, n182⟩ := d181.update (P := Tryz.prog) (T := 170) (el := 3) kr kInt 4 (v := nv 13) (y := nv 13) rfl
  refine L_in h182 rfl rfl rfl kr kr kr e182 ?_
  replace c170 := c170.sn t182
  replace c171 := c171.sn t182
  have T182 : Sm Nix h h182 := T181.trans t182 (fun x hx => .inr (by have hx : x = h171.next := hx; omega))
  have N182 := T182.nx
  obtain ⟨h183, e183, d183, t183, n183⟩ := d182.update (P := Tryz.prog) (T := 170) (el := 3) kr kInt 5 (v := nv 14) (y := nv 14) rfl
  refine L_in h183 rfl rfl rfl kr kr kr e183 ?_
  replace c170 := c170.sn t183
  replace c171 := c171.sn t183
  have T183 : Sm Nix h h183 := T182.trans t183 (fun x hx => .inr (by have hx : x = h171.next := hx; omega))
  have N183 := T183.nx
  obtain ⟨h184, e184, d184, t184, n184⟩ := d183.update (P := Tryz.prog) (T := 170) (el := 3) kr kInt 6 (v := nv 15) (y := nv 15) rfl
  refine L_in h184 rfl rfl rfl kr kr kr e184 ?_
  replace c170 := c170.sn t184
  replace c171 := c171.sn t184
  have T184 : Sm Nix h h184 := T183.trans t184 (fun x hx => .inr (by have hx : x = h171.next := hx; omega))
  have N184 := T184.nx
  obtain ⟨h185, e185, d185, t185, n185⟩ := d184.update (P := Tryz.prog) (T := 170) (el := 3) kr kInt 7 (v := nv 16) (y := nv 16) rfl
  refine L_in h185 rfl rfl rfl kr kr kr e185 ?_
  replace c170 := c170.sn t185
  replace c171 := c171.sn t185
  have T185 : Sm Nix h h185 := T184.trans t185 (fun x hx => .inr (by have hx : x = h171.next := hx; omega))
  have N185 := T185.nx
  obtain ⟨h186, e186, d186, t186, n186⟩ := d185.update (P := Tryz.prog) (T := 170) (el := 3) kr kInt 8 (v := nv 17) (y := nv 17) rfl
  refine L_in h186 rfl rfl rfl kr kr kr e186 ?_
  replace c170 := c170.sn t186
  replace c171 := c171.sn t186
  have T186 : Sm Nix h h186 := T185.trans t186 (fun x hx => .inr (by have hx : x = h171.next := hx; omega))
  have N186 := T186.nx
  obtain ⟨h187, e187, d187, t187, n187⟩ := d186.update (P := Tryz.prog) (T := 170) (el := 3) kr kInt 9 (v := nv 18) (y := nv 18) rfl
  refine L_in h187 rfl rfl rfl kr kr kr e187 ?_
  replace c170 := c170.sn t187
  replace c171 := c171.sn t187
  have T187 : Sm Nix h h187 := T186.trans t187 (fun x hx => .inr (by have hx : x = h171.next := hx; omega))
  have N187 := T187.nx
  obtain ⟨h188, e188, d188, t188, n188⟩ := d187.update (P := Tryz.prog) (T := 170) (el := 3) kr kInt 10 (v := nv 19) (y := nv 19) rfl
  refine L_in h188 rfl rfl rfl kr kr kr e188 ?_
  replace c170 := c170.sn t188
  replace c171 := c171.sn t188
  have T188 : Sm Nix h h188 := T187.trans t188 (fun x hx => .inr (by have hx : x = h171.next := hx; omega))
  have N188 := T188.nx
  obtain ⟨h189, e189, d189, t189, n189⟩ := d188.update (P := Tryz.prog) (T := 170) (el := 3) kr kInt 11 (v := nv 20) (y := nv 20) rfl
  refine L_in h189 rfl rfl rfl kr kr kr e189 ?_
  replace c170 := c170.sn t189
  replace c171 := c171.sn t189
  have T189 : Sm Nix h h189 := T188.trans t189 (fun x hx => .inr (by have hx : x = h171.next := hx; omega))
  have N189 := T189.nx
  refine L_g 2 kr (L_ld _ rfl rfl kr (c170.ld (o := 0) kr rfl) ?_)
  have hm9 : Mp h189 (h171.next) nv (fun (v : Value) (y : Value) => v = y) imap := d189
  have hlk : aLookup Tryz.prog 170 (.map (some (h171.next))) (nv x.op) true h189 = some (.tuple ⟨[nv 0, .bool false]⟩) := by
   rcases hm9.lookup (P := Tryz.prog) (T := 170) (kt := 3) (el := 3) (z := nv 0) kr kInt kr x.op true with ⟨q1, q2⟩ | ⟨v, x2, q1, q2, q3⟩
   · exact q2
   · rw [imap_get, hi] at q1; cases q1
  refine L_lk _ rfl rfl kr kr (hlk) (L_g 5 kr (L_nil (W_seq (W_sg 2 kr (L_nil (W_cT kr (W_seq (W_region (L_g 1 kr ?_)))))))))
  refine L_ld _ rfl rfl kr (c170.ld (o := 0) kr rfl) (L_g 1 kr ?_)
  obtain ⟨h190, e190, d190, t190, n190⟩ := c171.sA 37 [nv 8, nv x.op, .string emp, .string emp]
  replace c171 := d190
  have T190 := T189.tr t190
  have N190 := T190.nx
  refine L_st _ rfl rfl rfl kr kr (e190) (L_nil (W_ret ?_))
  refine rr ?_
  refine done_of (.inl rfl) (evR_c1 kr (a := ⟨h170.next, 0, none⟩) kr (Cl.allN (n := 4) c171 rfl kr)) ?_
  have hr : insc (ins1 x) = [nv 8, nv x.op, .string emp, .string emp] := by unfold ins1; rw [hi]; rfl
  rw [hr]
  exact ⟨rfl, T190⟩
 | some o =>
  refine Calls_W 56 Tryz.f58 ?_
  have T0 : Sm Nix h h := .refl
  refine W_seq (W_region (L_nwc [nv x.op, nv x.val, .string x.nm, .string x.ot, .slice p1 x.a.length c1, .slice p2 x.b.length c2, .slice p3 x.e.length c3] .ptr rfl rfl kr fun h191 c191 t191 n191 => ?_))
  have T191 := T0.ext t191
  have N191 := T191.nx
  refine L_nwc [nv 0, nv 0, .string ⟨#[]⟩, .string ⟨#[]⟩] .ptr rfl rfl kr fun h192 c192 t192 n192 => ?_
  replace c191 := c191.ext t192
  have T192 := T191.ext t192
  have N192 := T192.nx
  refine L_nil (W_seq (W_region (L_nw (Al.map) .mp rfl rfl kr ?_)))
  have m193 : Mp (h192.push (Al.map).obj) h192.next nv (fun (v : Value) (y : Value) => v = y) ([] : List (Int × Value)) := Mp.new h192
  have t193 : Sm Nix h192 (h192.push (Al.map).obj) := .push h192 _
  have n193 : (h192.push (Al.map).obj).next = h192.next + 1 := rfl
  generalize h192.push (Al.map).obj = h193 at m193 t193 n193 ⊢
  replace c191 := c191.ext t193
  replace c192 := c192.ext t193
  have T193 := T192.ext t193
  have N193 := T193.nx
  obtain ⟨h194, e194, d194, t194, n194⟩ := m193.update (P := Tryz.prog) (T := 170) (el := 3) kr kInt 20 (v := nv 1) (y := nv 1) rfl
  refine L_in h194 rfl rfl rfl kr kr kr e194 ?_
  replace c191 := c191.sn t194
  replace c192 := c192.sn t194
  have T194 : Sm Nix h h194 := T193.trans t194 (fun x hx => .inr (by have hx : x = h192.next := hx; omega))
  have N194 := T194.nx
  obtain ⟨h195, e195, d195, t195, n195⟩ := d194.update (P := Tryz.prog) (T := 170) (el := 3) kr kInt 21 (v := nv 2) (y := nv 2) rfl
  refine L_in h195 rfl rfl rfl kr kr kr e195 ?_
  replace c191 := c191.sn t195
  replace c192 := c192.sn t195
  have T195 : Sm Nix h h195 := T194.trans t195 (fun x hx => .inr (by have hx : x = h192.next := hx; omega))
  have N195 := T195.nx
  obtain ⟨h196, e196, d196, t196, n196⟩ := d195.update (P := Tryz.prog) (T := 170) (el := 3) kr kInt 22 (v := nv 4) (y := nv 4) rfl
  refine L_in h196 rfl rfl rfl kr kr kr e196 ?_
  replace c191 := c191.sn t196
  replace c192 := c192.sn t196
  have T196 : Sm Nix h h196 := T195.trans t196 (fun x hx => .inr (by have hx : x = h192.next := hx; omega))
  have N196 := T196.nx
  obtain ⟨h197, e197, d197, t197, n197⟩ := d196.update (P := Tryz.prog) (T := 170) (el := 3) kr kInt 23 (v := nv 5) (y := nv 5) rfl
  refine L_in h197 rfl rfl rfl kr kr kr e197 ?_
  replace c191 := c191.sn t197
  replace c192 := c192.sn t197
  have T197 : Sm Nix h h197 := T196.trans t197 (fun x hx => .inr (by have hx : x = h192.next := hx; omega))
  have N197 := T197.nx
  obtain ⟨h198, e198, d198, t198, n198⟩ := d197.update (P := Tryz.prog) (T := 170) (el := 3) kr kInt 25 (v := nv 6) (y := nv 6) rfl
  refine L_in h198 rfl rfl rfl kr kr kr e198 ?_
  replace c191 := c191.sn t198
  replace c192 := c192.sn t198
  have T198 : Sm Nix h h198 := T197.trans t198 (fun x hx => .inr (by have hx : x = h192.next := hx; omega))
  have N198 := T198.nx
  obtain ⟨h199, e199, d199, t199, n199⟩ := d198.update (P := Tryz.prog) (T := 170) (el := 3) kr kInt 26 (v := nv 7) (y := nv 7) rfl
  refine L_in h199 rfl rfl rfl kr kr kr e199 ?_
  replace c191 := c191.sn t199
  replace c192 := c192.sn t199
  have T199 : Sm Nix h h199 := T198.trans t199 (fun x hx => .inr (by have hx : x = h192.next := hx; omega))
  have N199 := T199.nx
  obtain ⟨h200, e200, d200, t200, n200⟩ := d199.update (P := Tryz.prog) (T := 170) (el := 3) kr kInt 1 (v := nv 3) (y := nv 3) rfl
  refine L_in h200 rfl rfl rfl kr kr kr e200 ?_
  replace c191 := c191.sn t200
  replace c192 := c192.sn t200
  have T200 : Sm Nix h h200 := T199.trans t200 (fun x hx => .inr (by have hx : x = h192.next := hx; omega))
  have N200 := T200.nx
  obtain ⟨h201, e201, d201, t201, n201⟩ := d200.update (P := Tryz.prog) (T := 170) (el := 3) kr kInt 2 (v := nv 11) (y := nv 11) rfl
  refine L_in h201 rfl rfl rfl kr kr kr e201 ?_
  replace c191 := c191.sn t201
  replace c192 := c192.sn t201
  have T201 : Sm Nix h h201 := T200.trans t201 (fun x hx => .inr (by have hx : x = h192.next := hx; omega))
  have N201 := T201.nx
  obtain ⟨h202, e202, d202, t202, n202⟩ := d201.update (P := Tryz.prog) (T := 170) (el := 3) kr kInt 3 (v := nv 12) (y := nv 12) rfl
  refine L_in h202 rfl rfl rfl kr kr kr e202 ?_
  replace c191 := c191.sn t202
  replace c192 := c192.sn t202
  have T202 : Sm Nix h h202 := T201.trans t202 (fun x hx => .inr (by have hx : x = h192.next := hx; omega))
  have N202 := T202.nx
  obtain ⟨h203, e203, d203, t203, n203⟩ := d202.update (P := Tryz.prog) (T := 170) (el := 3) kr kInt 4 (v := nv 13) (y := nv 13) rfl
  refine L_in h203 rfl rfl rfl kr kr kr e203 ?_
  replace c191 := c191.sn t203
  replace c192 := c192.sn t203
  have T203 : Sm Nix h h203 := T202.trans t203 (fun x hx => .inr (by have hx : x = h192.next := hx; omega))
  have N203 := T203.nx
  obtain ⟨h204, e204, d204, t204, n204⟩ := d203.update (P := Tryz.prog) (T := 170) (el := 3) kr kInt 5 (v := nv 14) (y := nv 14) rfl
  refine L_in h204 rfl rfl rfl kr kr kr e204 ?_
  replace c191 := c191.sn t204
  replace c192 := c192.sn t204
  have T204 : Sm Nix h h204 := T203.trans t204 (fun x hx => .inr (by have hx : x = h192.next := hx; omega))
  have N204 := T204.nx
  obtain ⟨h205, e205, d205, t205, n205⟩ := d204.update (P := Tryz.prog) (T := 170) (el := 3) kr kInt 6 (v := nv 15) (y := nv 15) rfl
  refine L_in h205 rfl rfl rfl kr kr kr e205 ?_
  replace c191 := c191.sn t205
  replace c192 := c192.sn t205
  have T205 : Sm Nix h h205 := T204.trans t205 (fun x hx => .inr (by have hx : x = h192.next := hx; omega))
  have N205 := T205.nx
  obtain ⟨h206, e206, d206, t206, n206⟩ := d205.update (P := Tryz.prog) (T := 170) (el := 3) kr kInt 7 (v := nv 16) (y := nv 16) rfl
  refine L_in h206 rfl rfl rfl kr kr kr e206 ?_
  replace c191 := c191.sn t206
  replace c192 := c192.sn t206
  have T206 : Sm Nix h h206 := T205.trans t206 (fun x hx => .inr (by have hx : x = h192.next := hx; omega))
  have N206 := T206.nx
  obtain ⟨h207, e207, d207, t207, n207⟩ := d206.update (P := Tryz.prog) (T := 170) (el := 3) kr kInt 8 (v := nv 17) (y := nv 17) rfl
  refine L_in h207 rfl rfl rfl kr kr kr e207 ?_
  replace c191 := c191.sn t207
  replace c192 := c192.sn t207
  have T207 : Sm Nix h h207 := T206.trans t207 (fun x hx => .inr (by have hx : x = h192.next := hx; omega))
  have N207 := T207.nx
  obtain ⟨h208, e208, d208, t208, n208⟩ := d207.update (P := Tryz.prog) (T := 170) (el := 3) kr kInt 9 (v := nv 18) (y := nv 18) rfl
  refine L_in h208 rfl rfl rfl kr kr kr e208 ?_
  replace c191 := c191.sn t208
  replace c192 := c192.sn t208
  have T208 : Sm Nix h h208 := T207.trans t208 (fun x hx => .inr (by have hx : x = h192.next := hx; omega))
  have N208 := T208.nx
  obtain ⟨h209, e209, d209, t209, n209⟩ := d208.update (P := Tryz.prog) (T := 170) (el := 3) kr kInt 10 (v := nv 19) (y := nv 19) rfl
  refine L_in h209 rfl rfl rfl kr kr kr e209 ?_
  replace c191 := c191.sn t209
  replace c192 := c192.sn t209
  have T209 : Sm Nix h h209 := T208.trans t209 (fun x hx => .inr (by have hx : x = h192.next := hx; omega))
  have N209 := T209.nx
  obtain ⟨h210, e210, d210, t210, n210⟩ := d209.update (P := Tryz.prog) (T := 170) (el := 3) kr kInt 11 (v := nv 20) (y := nv 20) rfl
  refine L_in h210 rfl rfl rfl kr kr kr e210 ?_
  replace c191 := c191.sn t210
  replace c192 := c192.sn t210
  have T210 : Sm Nix h h210 := T209.trans t210 (fun x hx => .inr (by have hx : x = h192.next := hx; omega))
  have N210 := T210.nx
  refine L_g 2 kr (L_ld _ rfl rfl kr (c191.ld (o := 0) kr rfl) ?_)
  have hm9 : Mp h210 (h192.next) nv (fun (v : Value) (y : Value) => v = y) imap := d210
  have hlk : aLookup Tryz.prog 170 (.map (some (h192.next))) (nv x.op) true h210 = some (.tuple ⟨[nv o, .bool true]⟩) := by
   rcases hm9.lookup (P := Tryz.prog) (T := 170) (kt := 3) (el := 3) (z := nv 0) kr kInt kr x.op true with ⟨q1, q2⟩ | ⟨v, x2, q1, q2, q3⟩
   · rw [imap_get, hi] at q1; cases q1
   · rw [imap_get, hi] at q1; cases q1; subst q2; exact q3
  refine L_lk _ rfl rfl kr kr (hlk) (L_g 5 kr (L_nil (W_seq (W_sg 2 kr (L_nil (W_cF kr (W_skip (W_seq (W_region ?_)))))))))
  refine L_g 2 kr (L_ld _ rfl rfl kr (c191.ld (o := 1) kr rfl) (L_g 1 kr (L_ld _ rfl rfl kr (c191.ld (o := 2) kr rfl) (L_g 1 kr (L_ld _ rfl rfl kr (c191.ld (o := 3) kr rfl) (L_g 1 kr (L_nwc [nv 0, nv 0, .string ⟨#[]⟩, .string ⟨#[]⟩] .ptr rfl rfl kr fun h211 c211 t211 n211 => ?_)))))))
  replace c191 := c191.ext t211
  replace c192 := c192.ext t211
  have T211 := T210.ext t211
  have N211 := T211.nx
  obtain ⟨h212, e212, d212, t212, n212⟩ := c211.sA 37 [nv o, nv x.val, .string x.nm, .string x.ot]
  replace c191 := c191.sn t212
  replace c192 := c192.sn t212
  replace c211 := d212
  have T212 := T211.tr t212
  have N212 := T212.nx
  refine L_st _ rfl rfl rfl kr kr (e212) (L_nil ?_)
  refine W_seq_cut (fun fr hh => (Cl hh (h210.next) [nv o, nv (x.val + (if x.op = 3 ∨ x.op = 5 then anys 0 x.a else 0)), .string x.nm, .string x.ot]) ∧ fr 2 = ptr h191.next ∧ fr 5 = ptr h210.next ∧ Sm Nix h hh ∧ Cl hh (h191.next) [nv 0, nv 0, .string ⟨#[]⟩, .string ⟨#[]⟩]) ?_ ?_
  ·
   refine W_seq_cut (fun fr hh => fr 1 = ptr h.next ∧ fr 2 = ptr h191.next ∧ fr 5 = ptr h210.next ∧ fr 36 = .bool (decide (x.op = 3 ∨ x.op = 5)) ∧ Sm Nix h hh ∧ Cl hh (h.next) [nv x.op, nv x.val, .string x.nm, .string x.ot, .slice p1 x.a.length c1, .slice p2 x.b.length c2, .slice p3 x.e.length c3] ∧ Cl hh (h191.next) [nv 0, nv 0, .string ⟨#[]⟩, .string ⟨#[]⟩] ∧ Cl hh (h210.next) [nv o, nv x.val, .string x.nm, .string x.ot]) ?_ ?_
   ·
     have h3 : x.op = 3 ∨ x.op = 5 ∨ (x.op ≠ 3 ∧ x.op ≠ 5) := by omega
     rcases h3 with q1 | q1 | ⟨q1, q2⟩
     ·
      refine W_rg 1 kr (L_ld _ rfl rfl kr (c191.ld (o := 0) kr rfl) (L_i (x.op) (3) (.bool true) rfl rfl kr kr rfl (by first | (simp; omega) | (simp [*]; done)) (L_g 5 kr (L_nil ?_))))
      exact ⟨by kernel_rfl, kr, kr, (Eq.trans (b := .bool (true)) kr (congrArg Value.bool (Eq.symm (show decide (x.op = 3 ∨ x.op = 5) = (true) by simp [q1])))), T212, c191, c192, c211⟩
     ·
      refine W_rg 1 kr (L_ld _ rfl rfl kr (c191.ld (o := 0) kr rfl) (L_i (x.op) (3) (.bool false) rfl rfl kr kr rfl (by first | (simp; omega) | (simp [*]; done)) (L_g 2 kr (L_want kr (L_ld _ rfl rfl kr (c191.ld (o := 0) kr rfl) (L_want kr (L_i (x.op) (5) (.bool true) rfl rfl kr kr rfl (by first | (simp; omega) | (simp [*]; done)) (L_g 1 kr (L_nil ?_)))))))))
      exact ⟨by kernel_rfl, kr, kr, (Eq.trans (b := .bool (true)) kr (congrArg Value.bool (Eq.symm (show decide (x.op = 3 ∨ x.op = 5) = (true) by simp [q1])))), T212, c191, c192, c211⟩
     ·
      refine W_rg 1 kr (L_ld _ rfl rfl kr (c191.ld (o := 0) kr rfl) (L_i (x.op) (3) (.bool false) rfl rfl kr kr rfl (by first | (simp; omega) | (simp [*]; done)) (L_g 2 kr (L_want kr (L_ld _ rfl rfl kr (c191.ld (o := 0) kr rfl) (L_want kr (L_i (x.op) (5) (.bool false) rfl rfl kr kr rfl (by first | (simp; omega) | (simp [*]; done)) (L_g 1 kr (L_nil ?_)))))))))
      exact ⟨by kernel_rfl, kr, kr, (Eq.trans (b := .bool (false)) kr (congrArg Value.bool (Eq.symm (show decide (x.op = 3 ∨ x.op = 5) = (false) by simp [q1, q2])))), T212, c191, c192, c211⟩
   ·
     rintro fr213 h213 ⟨y213_1, y213_2, y213_5, y213_36, T213, c191, c192, c211⟩
     have N213 := T213.nx
     have B213_t1 := c191.lt
     have B213_t2 := c192.lt
     have B213_t5 := c211.lt
     refine W_set (k := 1) y213_1 (W_set (k := 2) y213_2 (W_set (k := 5) y213_5 (W_set (k := 36) y213_36 ?_)))
     refine W_cond (decide (x.op = 3 ∨ x.op = 5)) kr (fun hb => ?_) (fun hb => ?_)
     ·
      have q7 := of_decide_eq_true hb
      obtain ⟨hv0, hl2⟩ := h35 q7
      obtain ⟨cs, Ha1, _, _, Ha3⟩ := Ha
      obtain ⟨y1, y2, hya⟩ : ∃ y1 y2, x.a = [y1, y2] := by
       match hx : x.a, hl2 with
       | [y1, y2], _ => exact ⟨y1, y2, rfl⟩
      obtain ⟨d0, K0, g0⟩ := Ha3.at (i := 0) (x := y1) (by rw [hya]; rfl)
      obtain ⟨d1, K1, g1⟩ := Ha3.at (i := 1) (x := y2) (by rw [hya]; rfl)
      obtain ⟨_, _, _, rfl, u1, u2, u3⟩ := g0.is
      obtain ⟨_, _, _, rfl, u4, u5, u6⟩ := g1.is
      obtain ⟨p0a, c0a, rfl⟩ := u1.form
      obtain ⟨p0b, c0b, rfl⟩ := u2.form
      obtain ⟨p0e, c0e, rfl⟩ := u3.form
      obtain ⟨p1a, c1a, rfl⟩ := u4.form
      obtain ⟨p1b, c1b, rfl⟩ := u5.form
      obtain ⟨p1e, c1e, rfl⟩ := u6.form
      generalize y1.a.length = n0a at K0
      generalize y1.b.length = n0b at K0
      generalize y1.e.length = n0e at K0
      generalize y2.a.length = n1a at K1
      generalize y2.b.length = n1b at K1
      generalize y2.e.length = n1e at K1
      refine W_sg 1 kr (L_ld _ rfl rfl kr (c191.ld (o := 4) kr rfl) (L_ln _ rfl rfl kr (((show aLen Tryz.prog 22 (.slice p1 x.a.length c1) h213 = some (.int .i64 ((x.a.length : Nat) : Int)) by kernel_rfl).trans (by rw [hl2]))) (L_g 1 kr (L_nil (W_block (W_unroll (W_seq (W_region (L_g 1 kr ?_)))))))))
      refine L_nil (W_seq (W_cT kr (W_skip (W_seq (W_block (W_seq (W_region (L_g 1 kr ?_))))))))
      obtain ⟨b9, o9, _, i9, l9⟩ := (Ha1.ext T213).at (P := Tryz.prog) (T := 22) (el := 44) kr kr (i := 0) (by rw [hl2]; decide) .i64
      refine L_ix _ rfl rfl kr kr (i9) (L_ld _ rfl rfl kr (ld_l (l := y1.c7 (.slice p0a n0a c0a) (.slice p0b n0b c0b) (.slice p0e n0e c0e)) kr (fun j hj => by rw [l9 j hj]; exact K0 j hj)) (L_nwc [nv 0, nv 0, .string ⟨#[]⟩, .string ⟨#[]⟩, .slice none 0 0, .slice none 0 0, .slice none 0 0] .ptr rfl rfl kr fun h214 c214 t214 n214 => ?_))
      replace c192 := c192.ext t214
      replace c211 := c211.ext t214
      have T214 := T213.ext t214
      have N214 := T214.nx
      refine L_g 1 kr ?_
      obtain ⟨h215, e215, d215, t215, n215⟩ := c214.sA 44 [nv y1.op, nv y1.val, .string y1.nm, .string y1.ot, .slice p0a n0a c0a, .slice p0b n0b c0b, .slice p0e n0e c0e]
      replace c192 := c192.sn t215
      replace c211 := c211.sn t215
      replace c214 := d215
      have T215 := T214.tr t215
      have N215 := T215.nx
      refine L_st _ rfl rfl rfl kr kr (e215) (L_nil (W_sg 1 kr (L_ld _ rfl rfl kr (c214.ld (o := 0) kr rfl) (L_i (y1.op) (24) (.bool (decide (y1.op = 24))) rfl rfl kr kr rfl (rfl) (L_nil ?_)))))
      refine W_cond (decide (y1.op = 24)) kr (fun hb => ?_) (fun hb => ?_)
      ·
       have g1 := of_decide_eq_true hb
       refine W_drawn kr (D_e (e := 6) (l := [0,1,2,3,4,5]) (s' := []) kr kr rfl kr Rk_nil (NS_b 1 kr (NS_ld _ rfl rfl kr kr kr (c211.ld (o := 1) kr rfl) (NS_b 1 kr (NS_v (nv 1) rfl kr rfl kr kr (NS_i (x.val) (1) (nv (x.val + 1)) rfl rfl kr kr kr kr rfl ((by first | (rw [hv0]; exact wrap_id (by decide) (by decide)) | (exact wrap_id (by omega) (by omega)))) (NS_b 1 kr (NS_nil ?_))))))))
       obtain ⟨h216, e216, d216, t216, n216⟩ := c211.s1 2 1 (nv (x.val + 1))
       replace d216 : Cl h216 (h210.next) [nv o, nv (x.val + 1), .string x.nm, .string x.ot] := d216
       replace c192 := c192.sn t216
       replace c211 := d216
       have T216 := T215.tr t216
       have N216 := T216.nx
       refine L_st _ rfl rfl rfl kr kr (e216) ?_
       refine L_nil ⟨rfl, ?_⟩
       refine D_l (l := []) kr kr Rk_nil (NS_nil (W_rg 2 kr (L_nil (W_unroll (W_sg 1 kr (L_nil (W_seq (W_cT kr ?_))))))))
       refine W_skip (W_seq (W_block (W_seq (W_region (L_g 1 kr ?_)))))
       obtain ⟨b9, o9, _, i9, l9⟩ := (Ha1.ext T216).at (P := Tryz.prog) (T := 22) (el := 44) kr kr (i := 1) (by rw [hl2]; decide) .i64
       refine L_ix _ rfl rfl kr kr (i9) (L_ld _ rfl rfl kr (ld_l (l := y2.c7 (.slice p1a n1a c1a) (.slice p1b n1b c1b) (.slice p1e n1e c1e)) kr (fun j hj => by rw [l9 j hj]; exact K1 j hj)) (L_nwc [nv 0, nv 0, .string ⟨#[]⟩, .string ⟨#[]⟩, .slice none 0 0, .slice none 0 0, .slice none 0 0] .ptr rfl rfl kr fun h217 c217 t217 n217 => ?_))
       replace c192 := c192.ext t217
       replace c211 := c211.ext t217
       have T217 := T216.ext t217
       have N217 := T217.nx
       refine L_g 1 kr ?_
       obtain ⟨h218, e218, d218, t218, n218⟩ := c217.sA 44 [nv y2.op, nv y2.val, .string y2.nm, .string y2.ot, .slice p1a n1a c1a, .slice p1b n1b c1b, .slice p1e n1e c1e]
       replace c192 := c192.sn t218
       replace c211 := c211.sn t218
       replace c217 := d218
       have T218 := T217.tr t218
       have N218 := T218.nx
       refine L_st _ rfl rfl rfl kr kr (e218) (L_nil (W_sg 1 kr (L_ld _ rfl rfl kr (c217.ld (o := 0) kr rfl) (L_i (y2.op) (24) (.bool (decide (y2.op = 24))) rfl rfl kr kr rfl (rfl) (L_nil ?_)))))
       refine W_cond (decide (y2.op = 24)) kr (fun hb => ?_) (fun hb => ?_)
       ·
        have g2 := of_decide_eq_true hb
        refine W_drawn kr (D_e (e := 6) (l := [0,1,2,3,4,5]) (s' := []) kr kr rfl kr Rk_nil (NS_b 1 kr (NS_ld _ rfl rfl kr kr kr (c211.ld (o := 1) kr rfl) (NS_b 1 kr (NS_v (nv 2) rfl kr rfl kr kr (NS_i ((x.val + 1)) (2) (nv ((x.val + 1) + 2)) rfl rfl kr kr kr kr rfl ((by first | (rw [hv0]; exact wrap_id (by decide) (by decide)) | (exact wrap_id (by omega) (by omega)))) (NS_b 1 kr (NS_nil ?_))))))))
        obtain ⟨h219, e219, d219, t219, n219⟩ := c211.s1 2 1 (nv ((x.val + 1) + 2))
        replace d219 : Cl h219 (h210.next) [nv o, nv ((x.val + 1) + 2), .string x.nm, .string x.ot] := d219
        replace c192 := c192.sn t219
        replace c211 := d219
        have T219 := T218.tr t219
        have N219 := T219.nx
        refine L_st _ rfl rfl rfl kr kr (e219) ?_
        refine L_nil ⟨rfl, ?_⟩
        refine D_l (l := []) kr kr Rk_nil (NS_nil (W_rg 2 kr (L_nil (W_unroll (W_sg 1 kr (L_nil (W_seq (W_cF kr ?_))))))))
        refine W_exit ?_
        refine rx ?_
        refine exit_here ?_
        skip
        exact ⟨(by have e : x.val + (if x.op = 3 ∨ x.op = 5 then anys 0 x.a else 0) = ((x.val + 1) + 2) := (by rw [if_pos q7, hya]; simp [anys, g1, g2]; try omega); rw [e]; exact c211), kr, kr, T219, c192⟩
       ·
        have g2 := of_decide_eq_false hb
        refine W_skip (W_rg 2 kr (L_nil (W_unroll (W_sg 1 kr (L_nil (W_seq (W_cF kr (W_exit ?_))))))))
        refine rx ?_
        refine exit_here ?_
        skip
        exact ⟨(by have e : x.val + (if x.op = 3 ∨ x.op = 5 then anys 0 x.a else 0) = (x.val + 1) := (by rw [if_pos q7, hya]; simp [anys, g1, g2]; try omega); rw [e]; exact c211), kr, kr, T218, c192⟩
      ·
       have g1 := of_decide_eq_false hb
       refine W_skip (W_rg 2 kr (L_nil (W_unroll (W_sg 1 kr (L_nil (W_seq (W_cT kr (W_skip ?_))))))))
       refine W_seq (W_block (W_seq (W_region (L_g 1 kr ?_))))
       obtain ⟨b9, o9, _, i9, l9⟩ := (Ha1.ext T215).at (P := Tryz.prog) (T := 22) (el := 44) kr kr (i := 1) (by rw [hl2]; decide) .i64
       refine L_ix _ rfl rfl kr kr (i9) (L_ld _ rfl rfl kr (ld_l (l := y2.c7 (.slice p1a n1a c1a) (.slice p1b n1b c1b) (.slice p1e n1e c1e)) kr (fun j hj => by rw [l9 j hj]; exact K1 j hj)) (L_nwc [nv 0, nv 0, .string ⟨#[]⟩, .string ⟨#[]⟩, .slice none 0 0, .slice none 0 0, .slice none 0 0] .ptr rfl rfl kr fun h220 c220 t220 n220 => ?_))
       replace c192 := c192.ext t220
       replace c211 := c211.ext t220
       have T220 := T215.ext t220
       have N220 := T220.nx
       refine L_g 1 kr ?_
       obtain ⟨h221, e221, d221, t221, n221⟩ := c220.sA 44 [nv y2.op, nv y2.val, .string y2.nm, .string y2.ot, .slice p1a n1a c1a, .slice p1b n1b c1b, .slice p1e n1e c1e]
       replace c192 := c192.sn t221
       replace c211 := c211.sn t221
       replace c220 := d221
       have T221 := T220.tr t221
       have N221 := T221.nx
       refine L_st _ rfl rfl rfl kr kr (e221) (L_nil (W_sg 1 kr (L_ld _ rfl rfl kr (c220.ld (o := 0) kr rfl) (L_i (y2.op) (24) (.bool (decide (y2.op = 24))) rfl rfl kr kr rfl (rfl) (L_nil ?_)))))
       refine W_cond (decide (y2.op = 24)) kr (fun hb => ?_) (fun hb => ?_)
       ·
        have g2 := of_decide_eq_true hb
        refine W_drawn kr (D_e (e := 6) (l := [0,1,2,3,4,5]) (s' := []) kr kr rfl kr Rk_nil (NS_b 1 kr (NS_ld _ rfl rfl kr kr kr (c211.ld (o := 1) kr rfl) (NS_b 1 kr (NS_v (nv 2) rfl kr rfl kr kr (NS_i (x.val) (2) (nv (x.val + 2)) rfl rfl kr kr kr kr rfl ((by first | (rw [hv0]; exact wrap_id (by decide) (by decide)) | (exact wrap_id (by omega) (by omega)))) (NS_b 1 kr (NS_nil ?_))))))))
        obtain ⟨h222, e222, d222, t222, n222⟩ := c211.s1 2 1 (nv (x.val + 2))
        replace d222 : Cl h222 (h210.next) [nv o, nv (x.val + 2), .string x.nm, .string x.ot] := d222
        replace c192 := c192.sn t222
        replace c211 := d222
        have T222 := T221.tr t222
        have N222 := T222.nx
        refine L_st _ rfl rfl rfl kr kr (e222) ?_
        refine L_nil ⟨rfl, ?_⟩
        refine D_l (l := []) kr kr Rk_nil (NS_nil (W_rg 2 kr (L_nil (W_unroll (W_sg 1 kr (L_nil (W_seq (W_cF kr ?_))))))))
        refine W_exit ?_
        refine rx ?_
        refine exit_here ?_
        skip
        exact ⟨(by have e : x.val + (if x.op = 3 ∨ x.op = 5 then anys 0 x.a else 0) = (x.val + 2) := (by rw [if_pos q7, hya]; simp [anys, g1, g2]; try omega); rw [e]; exact c211), kr, kr, T222, c192⟩
       ·
        have g2 := of_decide_eq_false hb
        refine W_skip (W_rg 2 kr (L_nil (W_unroll (W_sg 1 kr (L_nil (W_seq (W_cF kr (W_exit ?_))))))))
        refine rx ?_
        refine exit_here ?_
        skip
        exact ⟨(by have e : x.val + (if x.op = 3 ∨ x.op = 5 then anys 0 x.a else 0) = x.val := (by rw [if_pos q7, hya]; simp [anys, g1, g2]; try omega); rw [e]; exact c211), kr, kr, T221, c192⟩
     ·
      have q7 := of_decide_eq_false hb
      refine W_skip ?_
      skip
      exact ⟨(by rw [if_neg q7, Int.add_zero]; exact c211), kr, kr, T213, c192⟩
  ·
   rintro fr223 h223 ⟨C5, y223_2, y223_5, T223, c192⟩
   have N223 := T223.nx
   have B223_t2 := c192.lt
   refine W_set (k := 2) y223_2 (W_set (k := 5) y223_5 (W_seq (W_region (L_ld _ rfl rfl kr (Cl.allN (n := 4) C5 rfl kr) ?_))))
   obtain ⟨h224, e224, d224, t224, n224⟩ := c192.sA 37 [nv o, nv (x.val + (if x.op = 3 ∨ x.op = 5 then anys 0 x.a else 0)), .string x.nm, .string x.ot]
   replace c192 := d224
   have T224 := T223.tr t224
   have N224 := T224.nx
   refine L_st _ rfl rfl rfl kr kr (e224) (L_nil (W_ret ?_))
   refine rr ?_
   refine done_of (.inl rfl) (evR_c1 kr (a := ⟨h191.next, 0, none⟩) kr (Cl.allN (n := 4) c192 rfl kr)) ?_
   have hr : insc (ins1 x) = [nv o, nv (x.val + (if x.op = 3 ∨ x.op = 5 then anys 0 x.a else 0)), .string x.nm, .string x.ot] := by unfold ins1; rw [hi]; rfl
   rw [hr]
   exact ⟨rfl, T224⟩
end
end Go.Proofs.YtlgakeilplnfmaaGreatDoor
