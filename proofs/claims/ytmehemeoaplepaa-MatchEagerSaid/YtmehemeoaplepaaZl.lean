/- Worlds of the program and walks of its functions. -/
import Derived.Test.YtmehemeoaplepaaZk
namespace Go.Proofs.Ytmehemeoaplepaa
noncomputable section
open Go Go.X Go.Arm Go.Mt
theorem clone_by {h : AH} {s : Value} {d : List Value} (H : Rb h s d) (h1 : ∀ x, x ∈ d → x.oneCell' = true) (hl : d.length < big) :
  Arm.Calls Try.prog 38 [s] h (fun r => Rb r.2 r.1 d ∧ Cut r.2 r.1 d.length ∧ Sm Nix h r.2 ∧ (∀ b, vb r.1 = some b → h.next ≤ b ∧ b < r.2.next) ∧ ((∃ a n c, s = .slice (some a) n c) → ∃ a n c, r.1 = .slice (some a) n c)) := by
 refine Calls_of_W (n := 8) (fn := Try.f38) kr rfl rfl (Nat.le_of_ble_eq_true rfl) trivial ⟨.inr (by simp), rfl⟩ ?_
 have H' := H
 have hl : d.length < 1000000000 := hl
 obtain ⟨a, c, rfl⟩ := H.form
 cases a with
 | none =>
  have hn : d = [] := by
   rcases H with ⟨h0, _⟩ | ⟨b, o, c, h0, h1, e, _⟩
   · exact h0
   · cases e
  subst hn
  have T0 : Sm Nix h h := .refl
  refine W_seq ?_
  refine W_region ?_
  refine L_g 1 kr ?_
  refine L_nil ?_
  refine W_seq ?_
  refine W_seq ?_
  refine W_region ?_
  refine L_g 2 kr ?_
  refine L_nil ?_
  refine W_cond true kr (fun _ => ?_) (fun e => by cases e)
  refine W_seq ?_
  refine W_region ?_
  refine L_g 1 kr ?_
  refine L_nil ?_
  refine W_ret ?_
  repeat first | with_reducible refine then_ret ?_ | with_reducible refine blk_ret ?_
  refine done_of (v := .slice none 0 0) (.inl rfl) kr ?_
  exact ⟨Rb.nil, .inl rfl, T0, (fun b hb => by cases hb), fun ⟨a, n, c, e⟩ => by cases e⟩
 | some q =>
  have T0 : Sm Nix h h := .refl
  refine W_seq ?_
  refine W_region ?_
  refine L_g 1 kr ?_
  refine L_nil ?_
  refine W_seq ?_
  refine W_seq ?_
  refine W_region ?_
  refine L_g 2 kr ?_
  refine L_nil ?_
  refine W_cond false kr (fun e => by cases e) (fun _ => ?_)
  refine W_skip ?_
  refine W_seq ?_
  refine W_region ?_
  refine L_nw (Al.cells []) (.sl 0 0) rfl rfl kr ?_
  have c4 : Cl (h.push (Al.cells []).obj) h.next [] := Cl.new h _
  have t4 : Sm Nix h (h.push (Al.cells []).obj) := .push h _
  have n4 : (h.push (Al.cells []).obj).next = h.next + 1 := rfl
  generalize h.push (Al.cells []).obj = h4 at c4 t4 n4 ⊢
  have T4 : Sm Nix h h4 := T0.ext t4
  have N4 := T4.nx
  refine L_g 1 kr ?_
  obtain ⟨v5, h5, e5, r5, k5, t5, f5, s5, n5⟩ := app_bytes (P := Try.prog) (sT := 23) (xT := 23) (el := 5) (by_ := 1) (z := .int .u8 0) (a := ⟨h.next, 0, none⟩) kr kr kr kr kr rfl kr (H'.ext T4) h1 (by omega) c4.lt
  refine L_bi v5 h5 rfl rfl kr (vs := [Value.slice (some ⟨h.next, 0, none⟩) 0 0, Value.slice (some q) d.length c]) kr (bi_append e5) ?_
  replace c4 := c4.ext t5
  have T5 : Sm Nix h h5 := T4.ext t5
  have N5 := T5.nx
  refine L_g 1 kr ?_
  refine L_nil ?_
  refine W_ret ?_
  repeat first | with_reducible refine then_ret ?_ | with_reducible refine blk_ret ?_
  have hfr : ∀ b, vb v5 = some b → h.next ≤ b := fun b hb => by
   have := (T5).nx
   rcases f5 b hb with e | e
   · rw [e]; exact Nat.le_refl _
   · omega
  refine done_of (v := v5) (.inl rfl) kr ?_
  exact ⟨r5, k5, T5, fun b hb => ⟨hfr b hb, n5 b hb⟩, fun _ => s5⟩
theorem clone_ms {h : AH} {s : Value} {n : Nat} {cs : List Value} (H : Sd h 6 s n cs) (h1 : ∀ x, x ∈ cs → x.oneCell' = true) (hl : n < big) :
  Arm.Calls Try.prog 63 [s] h (fun r => Gr r.2 6 r.1 n cs ∧ Sm Nix h r.2 ∧ ∀ b, vb r.1 = some b → h.next ≤ b) := by
 refine Calls_of_W (n := 8) (fn := Try.f63) kr rfl rfl (Nat.le_of_ble_eq_true rfl) trivial ⟨.inr (by simp), rfl⟩ ?_
 have H' := H
 have hl : n < 1000000000 := hl
 obtain ⟨a, c, rfl⟩ := H.form
 cases a with
 | none =>
  have hn : n = 0 ∧ cs = [] := by
   rcases H.2 with ⟨h0, _⟩ | ⟨b, o, c, cc, nn, op, ro, h0, h1, e, _⟩
   · exact ⟨h0, List.length_eq_zero_iff.1 (by rw [H.1, h0, Nat.zero_mul])⟩
   · cases e
  obtain ⟨rfl, rfl⟩ := hn
  have T0 : Sm Nix h h := .refl
  refine W_seq ?_
  refine W_region ?_
  refine L_g 1 kr ?_
  refine L_nil ?_
  refine W_seq ?_
  refine W_seq ?_
  refine W_region ?_
  refine L_g 2 kr ?_
  refine L_nil ?_
  refine W_cond true kr (fun _ => ?_) (fun e => by cases e)
  refine W_seq ?_
  refine W_region ?_
  refine L_g 1 kr ?_
  refine L_nil ?_
  refine W_ret ?_
  repeat first | with_reducible refine then_ret ?_ | with_reducible refine blk_ret ?_
  refine done_of (v := .slice none 0 0) (.inl rfl) kr ?_
  exact ⟨Gr.nil, T0, fun b hb => by cases hb⟩
 | some q =>
  have T0 : Sm Nix h h := .refl
  refine W_seq ?_
  refine W_region ?_
  refine L_g 1 kr ?_
  refine L_nil ?_
  refine W_seq ?_
  refine W_seq ?_
  refine W_region ?_
  refine L_g 2 kr ?_
  refine L_nil ?_
  refine W_cond false kr (fun e => by cases e) (fun _ => ?_)
  refine W_skip ?_
  refine W_seq ?_
  refine W_region ?_
  refine L_nw (Al.cells []) (.sl 0 0) rfl rfl kr ?_
  have c6 : Cl (h.push (Al.cells []).obj) h.next [] := Cl.new h _
  have t6 : Sm Nix h (h.push (Al.cells []).obj) := .push h _
  have n6 : (h.push (Al.cells []).obj).next = h.next + 1 := rfl
  generalize h.push (Al.cells []).obj = h6 at c6 t6 n6 ⊢
  have T6 : Sm Nix h h6 := T0.ext t6
  have N6 := T6.nx
  refine L_g 1 kr ?_
  have g0 : Gr h6 6 (Value.slice (some ⟨h.next, 0, none⟩) 0 0) 0 [] := ⟨by simp, .inl ⟨rfl, .inr ⟨_, rfl, c6.lt⟩⟩⟩
  obtain ⟨v7, h7, e7, g7, t7, f7⟩ := g0.append (P := Try.prog) (sT := 82) (xT := 82) (el := 117) (by_ := 56) (z := (.agg ⟨[.int .i64 0, .int .i64 0, .int .i64 0, .int .i64 0, .int .i64 0, .nilIface]⟩)) (m := n) (ds := cs) kr kr kr kr kr rfl (by decide) (H'.ext T6) h1 (by omega)
  rw [Nat.zero_add, List.nil_append] at g7
  refine L_bi v7 h7 rfl rfl kr (vs := [Value.slice (some ⟨h.next, 0, none⟩) 0 0, Value.slice (some q) n c]) kr (bi_append e7) ?_
  replace c6 := c6.lt
  have T7 : Sm Nix h h7 := T6.trans t7 (fun x hx => .inr (by cases hx; exact Nat.le_refl _))
  have N7 := T7.nx
  refine L_g 1 kr ?_
  refine L_nil ?_
  refine W_ret ?_
  repeat first | with_reducible refine then_ret ?_ | with_reducible refine blk_ret ?_
  refine done_of (v := v7) (.inl rfl) kr ?_
  exact ⟨g7, T7, fun b hb => by
   rcases f7 b hb with e | e
   · cases e; exact Nat.le_refl _
   · have := (T7).nx; omega⟩
theorem clone_rq {h : AH} {s : Value} {n : Nat} {cs : List Value} (H : Sd h 1 s n cs) (h1 : ∀ x, x ∈ cs → x.oneCell' = true) (hl : n < big) :
  Arm.Calls Try.prog 96 [s] h (fun r => Gr r.2 1 r.1 n cs ∧ Sm Nix h r.2 ∧ ∀ b, vb r.1 = some b → h.next ≤ b) := by
 refine Calls_of_W (n := 8) (fn := Try.f96) kr rfl rfl (Nat.le_of_ble_eq_true rfl) trivial ⟨.inr (by simp), rfl⟩ ?_
 have H' := H
 have hl : n < 1000000000 := hl
 obtain ⟨a, c, rfl⟩ := H.form
 cases a with
 | none =>
  have hn : n = 0 ∧ cs = [] := by
   rcases H.2 with ⟨h0, _⟩ | ⟨b, o, c, cc, nn, op, ro, h0, h1, e, _⟩
   · exact ⟨h0, List.length_eq_zero_iff.1 (by rw [H.1, h0, Nat.zero_mul])⟩
   · cases e
  obtain ⟨rfl, rfl⟩ := hn
  have T0 : Sm Nix h h := .refl
  refine W_seq ?_
  refine W_region ?_
  refine L_g 1 kr ?_
  refine L_nil ?_
  refine W_seq ?_
  refine W_seq ?_
  refine W_region ?_
  refine L_g 2 kr ?_
  refine L_nil ?_
  refine W_cond true kr (fun _ => ?_) (fun e => by cases e)
  refine W_seq ?_
  refine W_region ?_
  refine L_g 1 kr ?_
  refine L_nil ?_
  refine W_ret ?_
  repeat first | with_reducible refine then_ret ?_ | with_reducible refine blk_ret ?_
  refine done_of (v := .slice none 0 0) (.inl rfl) kr ?_
  exact ⟨Gr.nil, T0, fun b hb => by cases hb⟩
 | some q =>
  have T0 : Sm Nix h h := .refl
  refine W_seq ?_
  refine W_region ?_
  refine L_g 1 kr ?_
  refine L_nil ?_
  refine W_seq ?_
  refine W_seq ?_
  refine W_region ?_
  refine L_g 2 kr ?_
  refine L_nil ?_
  refine W_cond false kr (fun e => by cases e) (fun _ => ?_)
  refine W_skip ?_
  refine W_seq ?_
  refine W_region ?_
  refine L_nw (Al.cells []) (.sl 0 0) rfl rfl kr ?_
  have c8 : Cl (h.push (Al.cells []).obj) h.next [] := Cl.new h _
  have t8 : Sm Nix h (h.push (Al.cells []).obj) := .push h _
  have n8 : (h.push (Al.cells []).obj).next = h.next + 1 := rfl
  generalize h.push (Al.cells []).obj = h8 at c8 t8 n8 ⊢
  have T8 : Sm Nix h h8 := T0.ext t8
  have N8 := T8.nx
  refine L_g 1 kr ?_
  have g0 : Gr h8 1 (Value.slice (some ⟨h.next, 0, none⟩) 0 0) 0 [] := ⟨by simp, .inl ⟨rfl, .inr ⟨_, rfl, c8.lt⟩⟩⟩
  obtain ⟨v9, h9, e9, g9, t9, f9⟩ := g0.append (P := Try.prog) (sT := 85) (xT := 85) (el := 103) (by_ := 8) (z := .pointer none) (m := n) (ds := cs) kr kr kr kr kr rfl (by decide) (H'.ext T8) h1 (by omega)
  rw [Nat.zero_add, List.nil_append] at g9
  refine L_bi v9 h9 rfl rfl kr (vs := [Value.slice (some ⟨h.next, 0, none⟩) 0 0, Value.slice (some q) n c]) kr (bi_append e9) ?_
  replace c8 := c8.lt
  have T9 : Sm Nix h h9 := T8.trans t9 (fun x hx => .inr (by cases hx; exact Nat.le_refl _))
  have N9 := T9.nx
  refine L_g 1 kr ?_
  refine L_nil ?_
  refine W_ret ?_
  repeat first | with_reducible refine then_ret ?_ | with_reducible refine blk_ret ?_
  refine done_of (v := v9) (.inl rfl) kr ?_
  exact ⟨g9, T9, fun b hb => by
   rcases f9 b hb with e | e
   · cases e; exact Nat.le_refl _
   · have := (T9).nx; omega⟩
theorem ixf_ms {h : AH} {s cap : Value} {g : FuncId} {cs : List Value} {α : Type} {l : List α} {pr : α → Bool} (H : Sd h 6 s l.length cs) (hl : l.length < big) (hg : ∀ vs h, aCallX Try.prog g vs h = some [(.enter g vs, h)])
  (hc : ∀ (i : Nat) x, l[i]? = some x → ∃ c, c.length = 6 ∧ (∀ j, j < 6 → cs[i * 6 + j]? = c[j]?) ∧ ∀ h', Sm Nix h h' → Arm.Calls Try.prog g [(.agg ⟨c⟩), cap] h' (fun r => r.1 = .bool (pr x) ∧ Sm Nix h' r.2)) :
  Arm.Calls Try.prog 61 [s, .func (.func g) ⟨[]⟩ ⟨[cap]⟩] h (fun r => r.1 = nv (match l.findIdx? pr with | some i => (i : Int) | none => -1) ∧ Sm Nix h r.2) := by
 have hl : l.length < 1000000000 := hl
 refine Calls_of_W (n := 19) (fn := Try.f61) kr rfl rfl (Nat.le_of_ble_eq_true rfl) trivial ⟨.inr (by simp), rfl⟩ ?_
 have T0 : Sm Nix h h := .refl
 refine W_seq ?_
 refine W_region ?_
 refine L_g 1 kr ?_
 refine L_nil ?_
 refine W_seq ?_
 refine W_seq ?_
 refine W_region ?_
 refine L_g 1 kr ?_
 refine L_ln _ rfl rfl kr ((H.ext T0).len (T := 82) (el := 117) kr) ?_
 refine L_g 1 kr ?_
 refine L_nil ?_
 refine W_block ?_
 refine W_loop (fun mm fr hh => ∃ (k : Nat), (k ≤ l.length) ∧ (l.findIdx? pr = ((l.drop k).findIdx? pr).map (· + k)) ∧ mm = l.length - k ∧ fr 0 = s ∧ fr 1 = .func (.func g) ⟨[]⟩ ⟨[cap]⟩ ∧ fr 7 = nv (l.length : Int) ∧ fr 8 = nv (k : Int) ∧ Sm Nix h hh) (l.length) ?_ ?_
 ·
  exact ⟨0, Nat.zero_le _, by simp, rfl, kr, kr, kr, kr, T0⟩
 rintro mm10 fr10 h10 ⟨k, hk, hf, hm10, y10_0, y10_1, y10_7, y10_8, T10⟩
 have N10 := T10.nx
 refine W_set (k := 0) y10_0 ?_
 refine W_set (k := 1) y10_1 ?_
 refine W_set (k := 7) y10_7 ?_
 refine W_set (k := 8) y10_8 ?_
 refine W_seq ?_
 refine W_region ?_
 refine L_g 1 kr ?_
 refine L_nil ?_
 refine W_seq ?_
 refine W_cond (decide ((k : Int) < (l.length : Nat))) kr (fun hb => ?_) (fun hb => ?_)
 ·
  have hlt : k < l.length := by simp at hb; omega
  obtain ⟨x, hx⟩ : ∃ x, l[k]? = some x := ⟨_, List.getElem?_eq_getElem hlt⟩
  have hdr : l.drop k = x :: l.drop (k + 1) := by rw [List.drop_eq_getElem_cons hlt]; congr 1; exact (List.getElem?_eq_some_iff.1 hx).2
  obtain ⟨c, hcl, hcc, hcall⟩ := hc k x hx
  obtain ⟨b9, o9, _, i9, l9⟩ := (H.ext T10).at (P := Try.prog) (T := 82) (el := 117) kr kr hlt .i64
  refine W_skip ?_
  refine W_seq ?_
  refine W_block ?_
  refine W_seq ?_
  refine W_region ?_
  refine L_g 2 kr ?_
  refine L_nil ?_
  refine W_seq ?_
  refine W_region ?_
  refine L_g 3 kr ?_
  refine L_ix _ rfl rfl kr kr (i9) ?_
  refine L_ld _ rfl rfl kr (ld_l (l := c) (by rw [hcl]; kernel_rfl) (fun j hj => by rw [l9 j (by omega)]; exact hcc j (by omega))) ?_
  refine L_c rfl rfl (Eq.trans (b := aCallX Try.prog g [(.agg ⟨c⟩), cap] h10) kr (hg _ _)) (hcall _ T10) ?_
  rintro v11 h11 ⟨e11, t11⟩
  try dsimp only at e11
  try dsimp only at t11
  subst e11
  have T11 : Sm Nix h h11 := T10.ext t11
  have N11 := T11.nx
  have M11 := t11.nx
  refine L_nil ?_
  refine W_cond (pr x) kr (fun hb => ?_) (fun hb => ?_)
  ·
   have hres : nv (match l.findIdx? pr with | some i => (i : Int) | none => -1) = nv (k : Int) := by rw [hf, hdr, List.findIdx?_cons, hb]; simp
   rw [hres]
   refine W_seq ?_
   refine W_region ?_
   refine L_g 2 kr ?_
   refine L_nil ?_
   refine W_ret ?_
   repeat first | with_reducible refine then_ret ?_ | with_reducible refine blk_ret ?_
   refine done_of (v := nv (k : Int)) (.inl rfl) kr ?_
   exact ⟨rfl, T11⟩
  ·
   have hfb : pr x = false := hb
   refine W_skip ?_
   refine W_region ?_
   refine L_i ((k : Int)) (1) (nv ((k + 1 : Nat) : Int)) rfl rfl kr kr rfl (inc_ok (by omega)) ?_
   refine L_g 1 kr ?_
   refine L_nil ?_
   exact ⟨l.length - (k + 1), by omega, k + 1, by omega, find_step hf hdr hfb, rfl, kr, kr, kr, kr, T11⟩
 ·
  have hge : k = l.length := by simp at hb; omega
  have hres : nv (match l.findIdx? pr with | some i => (i : Int) | none => -1) = nv (-1) := by rw [hf, hge]; simp
  rw [hres]
  refine W_exit ?_
  repeat with_reducible refine then_exit ?_
  refine exit_here ?_
  refine W_seq ?_
  refine W_region ?_
  refine L_g 1 kr ?_
  refine L_nil ?_
  refine W_ret ?_
  repeat first | with_reducible refine then_ret ?_ | with_reducible refine blk_ret ?_
  refine done_of (v := nv (-1)) (.inl rfl) kr ?_
  exact ⟨rfl, T10⟩
theorem ixf_rq {h : AH} {s cap : Value} {g : FuncId} {cs : List Value} {α : Type} {l : List α} {pr : α → Bool} (H : Sd h 1 s l.length cs) (hl : l.length < big) (hg : ∀ vs h, aCallX Try.prog g vs h = some [(.enter g vs, h)])
  (hc : ∀ (i : Nat) x, l[i]? = some x → ∃ v, cs[i]? = some v ∧ ∀ h', Sm Nix h h' → Arm.Calls Try.prog g [v, cap] h' (fun r => r.1 = .bool (pr x) ∧ Sm Nix h' r.2)) :
  Arm.Calls Try.prog 94 [s, .func (.func g) ⟨[]⟩ ⟨[cap]⟩] h (fun r => r.1 = nv (match l.findIdx? pr with | some i => (i : Int) | none => -1) ∧ Sm Nix h r.2) := by
 have hl : l.length < 1000000000 := hl
 refine Calls_of_W (n := 19) (fn := Try.f94) kr rfl rfl (Nat.le_of_ble_eq_true rfl) trivial ⟨.inr (by simp), rfl⟩ ?_
 have T0 : Sm Nix h h := .refl
 refine W_seq ?_
 refine W_region ?_
 refine L_g 1 kr ?_
 refine L_nil ?_
 refine W_seq ?_
 refine W_seq ?_
 refine W_region ?_
 refine L_g 1 kr ?_
 refine L_ln _ rfl rfl kr ((H.ext T0).len (T := 85) (el := 103) kr) ?_
 refine L_g 1 kr ?_
 refine L_nil ?_
 refine W_block ?_
 refine W_loop (fun mm fr hh => ∃ (k : Nat), (k ≤ l.length) ∧ (l.findIdx? pr = ((l.drop k).findIdx? pr).map (· + k)) ∧ mm = l.length - k ∧ fr 0 = s ∧ fr 1 = .func (.func g) ⟨[]⟩ ⟨[cap]⟩ ∧ fr 7 = nv (l.length : Int) ∧ fr 8 = nv (k : Int) ∧ Sm Nix h hh) (l.length) ?_ ?_
 ·
  exact ⟨0, Nat.zero_le _, by simp, rfl, kr, kr, kr, kr, T0⟩
 rintro mm12 fr12 h12 ⟨k, hk, hf, hm12, y12_0, y12_1, y12_7, y12_8, T12⟩
 have N12 := T12.nx
 refine W_set (k := 0) y12_0 ?_
 refine W_set (k := 1) y12_1 ?_
 refine W_set (k := 7) y12_7 ?_
 refine W_set (k := 8) y12_8 ?_
 refine W_seq ?_
 refine W_region ?_
 refine L_g 1 kr ?_
 refine L_nil ?_
 refine W_seq ?_
 refine W_cond (decide ((k : Int) < (l.length : Nat))) kr (fun hb => ?_) (fun hb => ?_)
 ·
  have hlt : k < l.length := by simp at hb; omega
  obtain ⟨x, hx⟩ : ∃ x, l[k]? = some x := ⟨_, List.getElem?_eq_getElem hlt⟩
  have hdr : l.drop k = x :: l.drop (k + 1) := by rw [List.drop_eq_getElem_cons hlt]; congr 1; exact (List.getElem?_eq_some_iff.1 hx).2
  obtain ⟨v, hv, hcall⟩ := hc k x hx
  obtain ⟨b9, o9, _, i9, l9⟩ := (H.ext T12).at (P := Try.prog) (T := 85) (el := 103) kr kr hlt .i64
  refine W_skip ?_
  refine W_seq ?_
  refine W_block ?_
  refine W_seq ?_
  refine W_region ?_
  refine L_g 2 kr ?_
  refine L_nil ?_
  refine W_seq ?_
  refine W_region ?_
  refine L_g 3 kr ?_
  refine L_ix _ rfl rfl kr kr (i9) ?_
  refine L_ld _ rfl rfl kr (ld_cell kr (by have := l9 0 (by decide); rw [Nat.add_zero, Nat.mul_one, Nat.add_zero] at this; rw [this]; exact hv)) ?_
  refine L_c rfl rfl (Eq.trans (b := aCallX Try.prog g [v, cap] h12) kr (hg _ _)) (hcall _ T12) ?_
  rintro v13 h13 ⟨e13, t13⟩
  try dsimp only at e13
  try dsimp only at t13
  subst e13
  have T13 : Sm Nix h h13 := T12.ext t13
  have N13 := T13.nx
  have M13 := t13.nx
  refine L_nil ?_
  refine W_cond (pr x) kr (fun hb => ?_) (fun hb => ?_)
  ·
   have hres : nv (match l.findIdx? pr with | some i => (i : Int) | none => -1) = nv (k : Int) := by rw [hf, hdr, List.findIdx?_cons, hb]; simp
   rw [hres]
   refine W_seq ?_
   refine W_region ?_
   refine L_g 2 kr ?_
   refine L_nil ?_
   refine W_ret ?_
   repeat first | with_reducible refine then_ret ?_ | with_reducible refine blk_ret ?_
   refine done_of (v := nv (k : Int)) (.inl rfl) kr ?_
   exact ⟨rfl, T13⟩
  ·
   have hfb : pr x = false := hb
   refine W_skip ?_
   refine W_region ?_
   refine L_i ((k : Int)) (1) (nv ((k + 1 : Nat) : Int)) rfl rfl kr kr rfl (inc_ok (by omega)) ?_
   refine L_g 1 kr ?_
   refine L_nil ?_
   exact ⟨l.length - (k + 1), by omega, k + 1, by omega, find_step hf hdr hfb, rfl, kr, kr, kr, kr, T13⟩
 ·
  have hge : k = l.length := by simp at hb; omega
  have hres : nv (match l.findIdx? pr with | some i => (i : Int) | none => -1) = nv (-1) := by rw [hf, hge]; simp
  rw [hres]
  refine W_exit ?_
  repeat with_reducible refine then_exit ?_
  refine exit_here ?_
  refine W_seq ?_
  refine W_region ?_
  refine L_g 1 kr ?_
  refine L_nil ?_
  refine W_ret ?_
  repeat first | with_reducible refine then_ret ?_ | with_reducible refine blk_ret ?_
  refine done_of (v := nv (-1)) (.inl rfl) kr ?_
  exact ⟨rfl, T12⟩
end
end Go.Proofs.Ytmehemeoaplepaa
namespace Go.Arm
noncomputable section
open Go Go.X
section
variable {P : Program} {h h' : AH} {k n i b o nn : Nat} {cs : List Value} {T xT el : TypeId} {cc : X.T Value}
theorem bnd_nat (i d : Nat) : bnd (some (.int .i64 (i : Nat))) d = some i := by unfold bnd; simp
theorem cut1 (hT : P.underlying T = some (.slice el)) (hk : szOf P el = some k) (hb : h.m.get b = some (.cells cc nn k false)) (hn : o + n * k ≤ nn) (hi : i < n) (hl : n < open_) :
  ∃ v, aSl P T (.slice (some ⟨b, o, none⟩) n open_) (some (.int .i64 (i : Nat))) (some (.int .i64 ((i + 1 : Nat) : Int))) (some (.int .i64 (n : Nat))) h = some v := by
 have e0 : X.opOf h b = some (nn, k) := by unfold X.opOf; rw [hb]
 have : ∃ v, aSlice P T (.slice (some ⟨b, o, none⟩) n open_) (some (.int .i64 (i : Nat))) (some (.int .i64 ((i + 1 : Nat) : Int))) (some (.int .i64 (n : Nat))) h = some v := by
  unfold aSlice
  rw [if_pos (show mxOk _ _ = true from rfl)]
  simp only [hT, hk, if_true]
  have e1 : bnd (some (.int .i64 (n : Nat))) 0 = some n := bnd_nat _ _
  have e2 : bnd (some (.int .i64 ((i + 1 : Nat) : Int))) n = some (i + 1) := bnd_nat _ _
  have e3 : bnd (some (.int .i64 (i : Nat))) 0 = some i := bnd_nat _ _
  simp only [e1, e2, e3, e0]
  rw [if_pos ⟨by omega, by omega, trivial, hn, hl⟩]
  exact ⟨_, rfl⟩
 obtain ⟨v, e⟩ := this
 exact ⟨v, by unfold aSl; rw [e]⟩
theorem cut2 (hT : P.underlying T = some (.slice el)) (hk : szOf P el = some k) (hb : h.m.get b = some (.cells cc nn k false)) (hi : i ≤ n) :
  aSl P T (.slice (some ⟨b, o, none⟩) n open_) none (some (.int .i64 (i : Nat))) none h = some (.slice (some ⟨b, o, none⟩) i open_) := by
 have e0 : X.opOf h b = some (nn, k) := by unfold X.opOf; rw [hb]
 have : aSlice P T (.slice (some ⟨b, o, none⟩) n open_) none (some (.int .i64 (i : Nat))) none h = some (.slice (some ⟨b, o, none⟩) i open_) := by
  unfold aSlice
  rw [if_pos (show mxOk _ _ = true from rfl)]
  simp only [hT, hk, if_true]
  have e2 : bnd (some (.int .i64 (i : Nat))) n = some i := bnd_nat _ _
  have e3 : bnd none 0 = some 0 := rfl
  simp only [e2, e3, e0]
  rw [if_pos ⟨by omega, trivial, .inl hi⟩]
  simp
 unfold aSl; rw [this]
theorem cut3 (hT : P.underlying T = some (.slice el)) (hk : szOf P el = some k) (hb : h.m.get b = some (.cells cc nn k false)) (hi : i ≤ n) :
  aSl P T (.slice (some ⟨b, o, none⟩) n open_) (some (.int .i64 (i : Nat))) none none h = some (.slice (some ⟨b, o + i * k, none⟩) (n - i) open_) := by
 have e0 : X.opOf h b = some (nn, k) := by unfold X.opOf; rw [hb]
 have : aSlice P T (.slice (some ⟨b, o, none⟩) n open_) (some (.int .i64 (i : Nat))) none none h = some (.slice (some ⟨b, o + i * k, none⟩) (n - i) open_) := by
  unfold aSlice
  rw [if_pos (show mxOk _ _ = true from rfl)]
  simp only [hT, hk, if_true]
  have e2 : bnd none n = some n := rfl
  have e3 : bnd (some (.int .i64 (i : Nat))) 0 = some i := bnd_nat _ _
  simp only [e2, e3, e0]
  rw [if_pos ⟨hi, trivial, .inl (Nat.le_refl _)⟩]
 unfold aSl; rw [this]
theorem cut4 (hT : P.underlying T = some (.slice el)) (hk : szOf P el = some k) (hb : h.m.get b = some (.cells cc nn k false)) (hn : o + (n + 1) * k ≤ nn) :
  aSl P T (.slice (some ⟨b, o, none⟩) n open_) (some (.int .i64 (n : Nat))) (some (.int .i64 ((n + 1 : Nat) : Int))) none h = some (.slice (some ⟨b, o + n * k, none⟩) 1 open_) := by
 have e0 : X.opOf h b = some (nn, k) := by unfold X.opOf; rw [hb]
 have : aSlice P T (.slice (some ⟨b, o, none⟩) n open_) (some (.int .i64 (n : Nat))) (some (.int .i64 ((n + 1 : Nat) : Int))) none h = some (.slice (some ⟨b, o + n * k, none⟩) 1 open_) := by
  unfold aSlice
  rw [if_pos (show mxOk _ _ = true from rfl)]
  simp only [hT, hk, if_true]
  have e2 : bnd (some (.int .i64 ((n + 1 : Nat) : Int))) n = some (n + 1) := bnd_nat _ _
  have e3 : bnd (some (.int .i64 (n : Nat))) 0 = some n := bnd_nat _ _
  simp only [e2, e3, e0]
  rw [if_pos ⟨by omega, trivial, .inr hn⟩]
  simp
 unfold aSl; rw [this]
theorem bi_clear {x : Value} (e : aClear P T x h = some h') : aBuiltin P .clear [T] [x] h = some [(.val (.tuple ⟨[]⟩), h')] := by
 show oun (aClear P T x h) = _
 rw [e]; rfl
theorem Gr.del {by_ : Nat} {z : Value} (hT : P.underlying T = some (.slice el)) (hx : newsK P xT = .list) (hk : szOf P el = some k) (hby : byOf P el = some by_) (hz : zeroOf P el = some z) (hzl : (cellsL z).length = k) (hzo : ∀ x, x ∈ cellsL z → x.oneCell' = true) (hu8 : isU8 P el = none) (hlim : n * (by_ + 1) < 1099511627776)
   (h1 : ∀ x, x ∈ cs → x.oneCell' = true) (hk0 : 0 < k) (hb : h.m.get b = some (.cells cc nn k false)) (hlt : b < h.next) (hcl : cs.length = n * k) (hn : o + n * k ≤ nn) (hc : ∀ j, j < cs.length → cc.get (o + j) = cs[j]?) (hi : i < n) :
   ∃ h1 h2, aAppend P T xT (.slice (some ⟨b, o, none⟩) i open_) (.slice (some ⟨b, o + (i + 1) * k, none⟩) (n - (i + 1)) open_) h = some (.slice (some ⟨b, o, none⟩) (n - 1) open_, h1) ∧
     (∃ c1, h1.m.get b = some (.cells c1 nn k false)) ∧ Sm (fun x => x = b) h h1 ∧ aClear P T (.slice (some ⟨b, o + (n - 1) * k, none⟩) 1 open_) h1 = some h2 ∧ Gr h2 k (.slice (some ⟨b, o, none⟩) (n - 1) open_) (n - 1) (cs.take (i * k) ++ cs.drop (i * k + k)) ∧ Sm (fun x => x = b) h1 h2 := by
 have hmul : (i + 1) * k = i * k + k := Nat.succ_mul i k
 have hle : (i + 1) * k ≤ n * k := Nat.mul_le_mul_right _ hi
 have hnk : (n - (i + 1)) * k = n * k - (i * k + k) := by rw [Nat.mul_sub_right_distrib, hmul]
 have hn1 : (n - 1) * k = n * k - k := by rw [Nat.mul_sub_right_distrib, Nat.one_mul]
 have hdl : (cs.drop (i * k + k)).length = (n - (i + 1)) * k := by rw [List.length_drop, hcl, hnk]
 have hf : aFirst k (n - (i + 1)) (.slice (some ⟨b, o + (i + 1) * k, none⟩) (n - (i + 1)) open_) h = some (cs.drop (i * k + k)) := by
   unfold aFirst
   dsimp only
   by_cases h0 : n - (i + 1) = 0
   · rw [if_pos h0]
     have : cs.drop (i * k + k) = [] := List.length_eq_zero_iff.1 (by rw [hdl, h0, Nat.zero_mul])
     rw [this]
   · rw [if_neg h0, if_neg (fun e => e.elim open_ne h0)]
     refine cells_of hb ((n - (i + 1)) * k) 0 _ hdl (by rw [hnk, hmul]; omega) (fun j hj => ?_)
     rw [List.getElem?_drop, Nat.add_zero, hmul, show o + (i * k + k) + j = o + (i * k + k + j) by omega]
     rw [hnk] at hj
     exact hc _ (by omega)
 obtain ⟨h1', cc', a1, a2, a3, a4, a5⟩ := setcs_of (o := o) (cs.drop (i * k + k)) (i * k) hb (by rw [hdl, hnk]; omega) (fun v hv => h1 v (List.mem_of_mem_drop hv))
 obtain ⟨h2', cc2, b1, b2, b3, b4, b5⟩ := setcs_of (o := o + (n - 1) * k) (cellsL z) 0 a2 (by rw [hzl, hn1]; omega) hzo
 refine ⟨h1', h2', ?_, ⟨_, a2⟩, ⟨by omega, fun x _ hx => a5 x hx⟩, ?_, ⟨?_, .inr ⟨b, o, cc2, nn, rfl, by omega, b2, hk0, by rw [hn1]; omega, fun j hj => ?_⟩⟩, ⟨by omega, fun x _ hx => b5 x hx⟩⟩
 · unfold aAppend
   simp only [hT, hk, hby, hz]
   unfold aNews
   have hlen : X.lenV (.slice (some ⟨b, o + (i + 1) * k, none⟩) (n - (i + 1)) open_) = some (n - (i + 1)) := rfl
   have hl0 : X.lenV (.slice (some ⟨b, o, none⟩) i open_) = some i := rfl
   simp only [hx, hlen, hf, hl0]
   rw [if_pos ⟨hzl, hdl, by rw [List.all_eq_true]; exact fun v hv => h1 v (List.mem_of_mem_drop hv), by rw [show i + (n - (i + 1)) = n - 1 by omega]; exact Nat.lt_of_le_of_lt (Nat.mul_le_mul_right _ (by omega)) hlim⟩, hu8]
   unfold aAppendTo
   dsimp only
   rw [if_pos rfl]
   have e0 : X.opOf h b = some (nn, k) := by unfold X.opOf; rw [hb]
   simp only [e0, if_true]
   rw [show i + (n - (i + 1)) = n - 1 by omega, if_pos (by rw [hn1]; omega), a1]
 · unfold aClear
   simp only [hT, hz]
   rw [if_neg (by decide), if_neg open_ne]
   have : zrep 1 (cellsL z) = cellsL z := by simp [zrep]
   rw [this]; exact b1
 · rw [List.length_append, List.length_take, hdl, hcl, hnk, hn1, Nat.min_eq_left (by omega)]; omega
 · rw [List.length_append, List.length_take, hdl, hcl, hnk, Nat.min_eq_left (by omega)] at hj
   rw [b3, if_neg (by rw [hn1]; omega), a3]
   by_cases hj2 : j < i * k
   · rw [if_neg (by omega), List.getElem?_append_left (by rw [List.length_take]; omega), List.getElem?_take, if_pos hj2]
     exact hc j (by omega)
   · rw [if_pos (by rw [hdl, hnk]; omega), List.getElem?_append_right (by rw [List.length_take]; omega), List.length_take, hcl, Nat.min_eq_left (by omega)]
     congr 1; omega
end
end
end Go.Arm
namespace Go.Proofs.Ytmehemeoaplepaa
noncomputable section
open Go Go.X Go.Arm Go.Mt
theorem del_ms {h : AH} {b o nn n i : Nat} {cc : X.T Value} {cs : List Value} (hb : h.m.get b = some (.cells cc nn 6 false)) (hlt : b < h.next) (hcl : cs.length = n * 6) (hn : o + n * 6 ≤ nn) (hc : ∀ j, j < cs.length → cc.get (o + j) = cs[j]?) (h1 : ∀ x, x ∈ cs → x.oneCell' = true) (hi : i < n) (hl : n < big) :
  Arm.Calls Try.prog 62 [.slice (some ⟨b, o, none⟩) n open_, nv (i : Int), nv ((i + 1 : Nat) : Int)] h (fun r => r.1 = .slice (some ⟨b, o, none⟩) (n - 1) open_ ∧ Gr r.2 6 r.1 (n - 1) (cs.take (i * 6) ++ cs.drop (i * 6 + 6)) ∧ Sm (fun x => x = b) h r.2) := by
 have hl : n < 1000000000 := hl
 have hop : n < open_ := Nat.lt_trans hl (by decide)
 obtain ⟨m, rfl⟩ : ∃ m, n = m + 1 := ⟨n - 1, by omega⟩
 obtain ⟨vx, ex⟩ := cut1 (P := Try.prog) (T := 82) (el := 117) (o := o) kr kr hb hn hi hop
 obtain ⟨ha, hz, ea, ⟨c1, ga⟩, ta, ez, gz, tz⟩ := Gr.del (P := Try.prog) (T := 82) (xT := 82) (el := 117) (by_ := 56) (z := (.agg ⟨[.int .i64 0, .int .i64 0, .int .i64 0, .int .i64 0, .int .i64 0, .nilIface]⟩)) (o := o) kr kr kr kr kr rfl (List.all_eq_true.1 rfl) kr (by omega) h1 (by decide) hb hlt hcl hn hc hi
 simp only [Nat.add_sub_cancel] at ea ez gz ⊢
 refine Calls_of_W (n := 33) (fn := Try.f62) kr rfl rfl (Nat.le_of_ble_eq_true rfl) trivial ⟨.inr (by simp), rfl⟩ ?_
 have T0 : Sm (fun x => x = b) h h := .refl
 refine W_seq ?_
 refine W_region ?_
 refine L_g 1 kr ?_
 refine L_nil ?_
 refine W_seq ?_
 refine W_region ?_
 refine L_g 5 kr ?_
 refine L_sl _ rfl rfl kr kr kr kr (ex) ?_
 refine L_nil ?_
 refine W_seq ?_
 refine W_seq ?_
 refine W_region ?_
 refine L_g 2 kr ?_
 refine L_i ((i : Int)) (((i + 1 : Nat) : Int)) (.bool false) rfl rfl kr kr rfl (by first | (simp; done) | (simp; omega)) ?_
 refine L_nil ?_
 refine W_cond false kr (fun e => by cases e) (fun _ => ?_)
 refine W_skip ?_
 refine W_seq ?_
 refine W_region ?_
 refine L_g 3 kr ?_
 refine L_nil ?_
 refine W_seq ?_
 refine W_drawn kr ?_
 refine D_e (e := 6) (l := [0, 1, 2, 3, 4, 5]) (s' := []) kr kr rfl kr Rk_nil ?_
 refine NS_b 2 kr ?_
 refine NS_sl _ rfl rfl kr kr kr kr kr kr (cut2 (P := Try.prog) (T := 82) (el := 117) (n := m + 1) (i := i) (o := o) kr kr hb (by omega)) ?_
 refine NS_b 2 kr ?_
 refine NS_sl _ rfl rfl kr kr kr kr kr kr (cut3 (P := Try.prog) (T := 82) (el := 117) (n := m + 1) (i := i + 1) (o := o) kr kr hb (by omega)) ?_
 refine NS_nil ?_
 refine L_bi (.slice (some ⟨b, o, none⟩) m open_) ha rfl rfl kr (vs := [.slice (some ⟨b, o, none⟩) i open_, .slice (some ⟨b, o + (i + 1) * 6, none⟩) (m + 1 - (i + 1)) open_]) kr (bi_append ea) ?_
 generalize hh14 : ha = h14 at ea ga ta ez tz ⊢
 have T14 : Sm (fun x => x = b) h h14 := T0.trans ta (fun x hx => .inl hx)
 have N14 := T14.nx
 refine L_nil ⟨rfl, ?_⟩
 refine D_l (l := [7]) kr kr Rk_nil ?_
 refine NS_b 1 kr ?_
 refine NS_nil ?_
 refine W_seq ?_
 refine W_region ?_
 refine L_g 4 kr ?_
 refine L_sl _ rfl rfl kr kr kr kr (cut4 (P := Try.prog) (T := 82) (el := 117) (n := m) (o := o) kr kr ga hn) ?_
 refine L_bi (.tuple ⟨[]⟩) hz rfl rfl kr (vs := [.slice (some ⟨b, o + m * 6, none⟩) 1 open_]) kr (bi_clear ez) ?_
 generalize hh15 : hz = h15 at gz tz ⊢
 have T15 : Sm (fun x => x = b) h h15 := T14.trans tz (fun x hx => .inl hx)
 have N15 := T15.nx
 refine L_nil ?_
 refine W_seq ?_
 refine W_region ?_
 refine L_g 2 kr ?_
 refine L_nil ?_
 refine W_ret ?_
 repeat first | with_reducible refine then_ret ?_ | with_reducible refine blk_ret ?_
 refine done_of (v := .slice (some ⟨b, o, none⟩) m open_) (.inl rfl) kr ?_
 exact ⟨rfl, gz, T15⟩
theorem del_rq {h : AH} {b o nn n i : Nat} {cc : X.T Value} {cs : List Value} (hb : h.m.get b = some (.cells cc nn 1 false)) (hlt : b < h.next) (hcl : cs.length = n * 1) (hn : o + n * 1 ≤ nn) (hc : ∀ j, j < cs.length → cc.get (o + j) = cs[j]?) (h1 : ∀ x, x ∈ cs → x.oneCell' = true) (hi : i < n) (hl : n < big) :
  Arm.Calls Try.prog 95 [.slice (some ⟨b, o, none⟩) n open_, nv (i : Int), nv ((i + 1 : Nat) : Int)] h (fun r => r.1 = .slice (some ⟨b, o, none⟩) (n - 1) open_ ∧ Gr r.2 1 r.1 (n - 1) (cs.take (i * 1) ++ cs.drop (i * 1 + 1)) ∧ Sm (fun x => x = b) h r.2) := by
 have hl : n < 1000000000 := hl
 have hop : n < open_ := Nat.lt_trans hl (by decide)
 obtain ⟨m, rfl⟩ : ∃ m, n = m + 1 := ⟨n - 1, by omega⟩
 obtain ⟨vx, ex⟩ := cut1 (P := Try.prog) (T := 85) (el := 103) (o := o) kr kr hb hn hi hop
 obtain ⟨ha, hz, ea, ⟨c1, ga⟩, ta, ez, gz, tz⟩ := Gr.del (P := Try.prog) (T := 85) (xT := 85) (el := 103) (by_ := 8) (z := .pointer none) (o := o) kr kr kr kr kr rfl (List.all_eq_true.1 rfl) kr (by omega) h1 (by decide) hb hlt hcl hn hc hi
 simp only [Nat.add_sub_cancel] at ea ez gz ⊢
 refine Calls_of_W (n := 33) (fn := Try.f95) kr rfl rfl (Nat.le_of_ble_eq_true rfl) trivial ⟨.inr (by simp), rfl⟩ ?_
 have T0 : Sm (fun x => x = b) h h := .refl
 refine W_seq ?_
 refine W_region ?_
 refine L_g 1 kr ?_
 refine L_nil ?_
 refine W_seq ?_
 refine W_region ?_
 refine L_g 5 kr ?_
 refine L_sl _ rfl rfl kr kr kr kr (ex) ?_
 refine L_nil ?_
 refine W_seq ?_
 refine W_seq ?_
 refine W_region ?_
 refine L_g 2 kr ?_
 refine L_i ((i : Int)) (((i + 1 : Nat) : Int)) (.bool false) rfl rfl kr kr rfl (by first | (simp; done) | (simp; omega)) ?_
 refine L_nil ?_
 refine W_cond false kr (fun e => by cases e) (fun _ => ?_)
 refine W_skip ?_
 refine W_seq ?_
 refine W_region ?_
 refine L_g 3 kr ?_
 refine L_nil ?_
 refine W_seq ?_
 refine W_drawn kr ?_
 refine D_e (e := 6) (l := [0, 1, 2, 3, 4, 5]) (s' := []) kr kr rfl kr Rk_nil ?_
 refine NS_b 2 kr ?_
 refine NS_sl _ rfl rfl kr kr kr kr kr kr (cut2 (P := Try.prog) (T := 85) (el := 103) (n := m + 1) (i := i) (o := o) kr kr hb (by omega)) ?_
 refine NS_b 2 kr ?_
 refine NS_sl _ rfl rfl kr kr kr kr kr kr (cut3 (P := Try.prog) (T := 85) (el := 103) (n := m + 1) (i := i + 1) (o := o) kr kr hb (by omega)) ?_
 refine NS_nil ?_
 refine L_bi (.slice (some ⟨b, o, none⟩) m open_) ha rfl rfl kr (vs := [.slice (some ⟨b, o, none⟩) i open_, .slice (some ⟨b, o + (i + 1) * 1, none⟩) (m + 1 - (i + 1)) open_]) kr (bi_append ea) ?_
 generalize hh16 : ha = h16 at ea ga ta ez tz ⊢
 have T16 : Sm (fun x => x = b) h h16 := T0.trans ta (fun x hx => .inl hx)
 have N16 := T16.nx
 refine L_nil ⟨rfl, ?_⟩
 refine D_l (l := [7]) kr kr Rk_nil ?_
 refine NS_b 1 kr ?_
 refine NS_nil ?_
 refine W_seq ?_
 refine W_region ?_
 refine L_g 4 kr ?_
 refine L_sl _ rfl rfl kr kr kr kr (cut4 (P := Try.prog) (T := 85) (el := 103) (n := m) (o := o) kr kr ga hn) ?_
 refine L_bi (.tuple ⟨[]⟩) hz rfl rfl kr (vs := [.slice (some ⟨b, o + m * 1, none⟩) 1 open_]) kr (bi_clear ez) ?_
 generalize hh17 : hz = h17 at gz tz ⊢
 have T17 : Sm (fun x => x = b) h h17 := T16.trans tz (fun x hx => .inl hx)
 have N17 := T17.nx
 refine L_nil ?_
 refine W_seq ?_
 refine W_region ?_
 refine L_g 2 kr ?_
 refine L_nil ?_
 refine W_ret ?_
 repeat first | with_reducible refine then_ret ?_ | with_reducible refine blk_ret ?_
 refine done_of (v := .slice (some ⟨b, o, none⟩) m open_) (.inl rfl) kr ?_
 exact ⟨rfl, gz, T17⟩
end
end Go.Proofs.Ytmehemeoaplepaa
namespace Go.Proofs.Ytmehemeoaplepaa
noncomputable section
open Go Go.X Go.Arm Go.Mt
theorem kNum : KeyK Try.prog 3 nv := KeyK.int kr (fun e k => by kernel_rfl)
theorem pr_un {t : TypeId} {d : TypeDesc} {P : Program} (h : P.underlying t = some d) : pureRun P (underlying t) = some d := by
 simp only [underlying]; exact pureRun_and (e := Sem.program .pure) (a := P) rfl (by simp only [h]; rfl)
theorem eqIn_int {P : Program} (d : Nat) (t : TypeId) (k k' : IntKind) (a b : Int) (h : P.underlying t = some (.int k')) : pureRun P (Go.Op.equalIn (d + 1) t (.int k a) (.int k b)) = some (a == b) := by
 rw [Go.Op.equalIn]
 refine pureRun_and (pr_un h) ?_
 simp only [if_true]; rfl
noncomputable def fld (T i : Nat) : Field := match Try.prog.underlying T with | some (.struct fs) => (fs.toList[i]?).getD default | _ => default
theorem eq_way (a c : Int × Int) : pureRun Try.prog (Op.equal 96 (k2 a) (k2 c)) = some (decide (a = c)) := by
 have hu : ∃ f1 f2 : Field, Try.prog.underlying 96 = some (.struct ⟨[f1, f2]⟩) ∧ f1.name ≠ "_" ∧ f2.name ≠ "_" ∧ f1.type = 3 ∧ f2.type = 3 ∧ f1.offset = 0 ∧ f2.offset = 1 :=
   ⟨fld 96 0, fld 96 1, kr, by decide +kernel, by decide +kernel, kr, kr, kr, kr⟩
 obtain ⟨f1, f2, hu, n1, n2, t1, t2, o1, o2⟩ := hu
 have hi : Try.prog.underlying 3 = some (.int .i64) := by kernel_rfl
 unfold Go.Op.equal
 show pureRun _ (Go.Op.equalIn (9999 + 1) _ _ _) = _
 unfold k2 nv
 rw [Go.Op.equalIn]
 refine pureRun_and (pr_un hu) ?_
 dsimp only
 refine pureRun_and (e := program) (a := Try.prog) rfl ?_
 rw [if_neg (by decide +kernel)]
 rw [← Array.forIn_toList]
 simp only [List.forIn_cons, List.forIn_nil, n1, n2, t1, t2, o1, o2, if_true, ne_eq, not_false_eq_true]
 have p0 : ∀ v w : Value, pureRun Try.prog (part 3 ⟨[v, w]⟩ 0) = some v := fun v w => by kernel_rfl
 have p1 : ∀ v w : Value, pureRun Try.prog (part 3 ⟨[v, w]⟩ 1) = some w := fun v w => by kernel_rfl
 have q1 := eqIn_int (P := Try.prog) 9998 3 .i64 .i64 a.1 c.1 hi
 have q2 := eqIn_int (P := Try.prog) 9998 3 .i64 .i64 a.2 c.2 hi
 by_cases h1 : a.1 = c.1
 · have b1 : (a.1 == c.1) = true := by simpa using h1
   rw [b1] at q1
   by_cases h2 : a.2 = c.2
   · have b2 : (a.2 == c.2) = true := by simpa using h2
     rw [b2] at q2
     have hd : decide (a = c) = true := by simp [Prod.ext_iff, h1, h2]
     rw [hd]
     exact pureRun_and (a := (none, ())) (pureRun_and (a := ForInStep.yield (none, ())) (pureRun_and (p0 _ _) (pureRun_and (p0 _ _) (pureRun_and q1 rfl))) (pureRun_and (a := ForInStep.yield (none, ())) (pureRun_and (p1 _ _) (pureRun_and (p1 _ _) (pureRun_and q2 rfl))) rfl)) rfl
   · have b2 : (a.2 == c.2) = false := by simpa using h2
     rw [b2] at q2
     have hd : decide (a = c) = false := by simp [Prod.ext_iff, h2]
     rw [hd]
     exact pureRun_and (a := (some false, ())) (pureRun_and (a := ForInStep.yield (none, ())) (pureRun_and (p0 _ _) (pureRun_and (p0 _ _) (pureRun_and q1 rfl))) (pureRun_and (a := ForInStep.done (some false, ())) (pureRun_and (p1 _ _) (pureRun_and (p1 _ _) (pureRun_and q2 rfl))) rfl)) rfl
 · have b1 : (a.1 == c.1) = false := by simpa using h1
   rw [b1] at q1
   have hd : decide (a = c) = false := by simp [Prod.ext_iff, h1]
   rw [hd]
   exact pureRun_and (a := (some false, ())) (pureRun_and (a := ForInStep.done (some false, ())) (pureRun_and (p0 _ _) (pureRun_and (p0 _ _) (pureRun_and q1 rfl))) rfl) rfl
theorem k_way : KeyK Try.prog 96 k2 := by
 refine KeyK.ask (fs := ⟨[fld 96 0, fld 96 1]⟩) kr (fun k => rfl) (fun e k => by kernel_rfl) eq_way (fun k => ?_)
 unfold stays
 unfold k2 nv
 rw [Instr.sameBits]
 simp [Instr.sameBits]
theorem eq_ori (a c : Int × Int) : pureRun Try.prog (Op.equal 153 (k2 a) (k2 c)) = some (decide (a = c)) := by
 have hu : ∃ f1 f2 : Field, Try.prog.underlying 153 = some (.struct ⟨[f1, f2]⟩) ∧ f1.name ≠ "_" ∧ f2.name ≠ "_" ∧ f1.type = 3 ∧ f2.type = 3 ∧ f1.offset = 0 ∧ f2.offset = 1 :=
   ⟨fld 153 0, fld 153 1, kr, by decide +kernel, by decide +kernel, kr, kr, kr, kr⟩
 obtain ⟨f1, f2, hu, n1, n2, t1, t2, o1, o2⟩ := hu
 have hi : Try.prog.underlying 3 = some (.int .i64) := by kernel_rfl
 unfold Go.Op.equal
 show pureRun _ (Go.Op.equalIn (9999 + 1) _ _ _) = _
 unfold k2 nv
 rw [Go.Op.equalIn]
 refine pureRun_and (pr_un hu) ?_
 dsimp only
 refine pureRun_and (e := program) (a := Try.prog) rfl ?_
 rw [if_neg (by decide +kernel)]
 rw [← Array.forIn_toList]
 simp only [List.forIn_cons, List.forIn_nil, n1, n2, t1, t2, o1, o2, if_true, ne_eq, not_false_eq_true]
 have p0 : ∀ v w : Value, pureRun Try.prog (part 3 ⟨[v, w]⟩ 0) = some v := fun v w => by kernel_rfl
 have p1 : ∀ v w : Value, pureRun Try.prog (part 3 ⟨[v, w]⟩ 1) = some w := fun v w => by kernel_rfl
 have q1 := eqIn_int (P := Try.prog) 9998 3 .i64 .i64 a.1 c.1 hi
 have q2 := eqIn_int (P := Try.prog) 9998 3 .i64 .i64 a.2 c.2 hi
 by_cases h1 : a.1 = c.1
 · have b1 : (a.1 == c.1) = true := by simpa using h1
   rw [b1] at q1
   by_cases h2 : a.2 = c.2
   · have b2 : (a.2 == c.2) = true := by simpa using h2
     rw [b2] at q2
     have hd : decide (a = c) = true := by simp [Prod.ext_iff, h1, h2]
     rw [hd]
     exact pureRun_and (a := (none, ())) (pureRun_and (a := ForInStep.yield (none, ())) (pureRun_and (p0 _ _) (pureRun_and (p0 _ _) (pureRun_and q1 rfl))) (pureRun_and (a := ForInStep.yield (none, ())) (pureRun_and (p1 _ _) (pureRun_and (p1 _ _) (pureRun_and q2 rfl))) rfl)) rfl
   · have b2 : (a.2 == c.2) = false := by simpa using h2
     rw [b2] at q2
     have hd : decide (a = c) = false := by simp [Prod.ext_iff, h2]
     rw [hd]
     exact pureRun_and (a := (some false, ())) (pureRun_and (a := ForInStep.yield (none, ())) (pureRun_and (p0 _ _) (pureRun_and (p0 _ _) (pureRun_and q1 rfl))) (pureRun_and (a := ForInStep.done (some false, ())) (pureRun_and (p1 _ _) (pureRun_and (p1 _ _) (pureRun_and q2 rfl))) rfl)) rfl
 · have b1 : (a.1 == c.1) = false := by simpa using h1
   rw [b1] at q1
   have hd : decide (a = c) = false := by simp [Prod.ext_iff, h1]
   rw [hd]
   exact pureRun_and (a := (some false, ())) (pureRun_and (a := ForInStep.done (some false, ())) (pureRun_and (p0 _ _) (pureRun_and (p0 _ _) (pureRun_and q1 rfl))) rfl) rfl
theorem k_ori : KeyK Try.prog 153 k2 := by
 refine KeyK.ask (fs := ⟨[fld 153 0, fld 153 1]⟩) kr (fun k => rfl) (fun e k => by kernel_rfl) eq_ori (fun k => ?_)
 unfold stays
 unfold k2 nv
 rw [Instr.sameBits]
 simp [Instr.sameBits]
end
end Go.Proofs.Ytmehemeoaplepaa
namespace Go.Proofs.Ytmehemeoaplepaa
noncomputable section
open Go Go.X Go.Arm Go.Mt
theorem put_ok {W : Wd} {G : Gh} {h : AH} {a b : Int} {x : Pk} {ty : TypeId} {u : Value} (R : Rep W G h) (hx : PkV h G.ro (.iface ty u) x) (hl : (W.way a b).length < big) :
  Arm.Calls Try.prog 52 [ptr (G.B .wd), nv a, nv b, .iface ty u] h (fun r => Nxt (W.setWay a b (W.way a b ++ [x])) G h r.2) := by
 have hl : (W.way a b).length < 1000000000 := hl
 have hwl := R.waysLt
 refine Calls_of_W (n := 23) (fn := Try.f52) kr rfl rfl (Nat.le_of_ble_eq_true rfl) trivial ⟨.inr (by simp), rfl⟩ ?_
 have T0 : Sm Nix h h := .refl
 refine W_seq ?_
 refine W_region ?_
 refine L_g 3 kr ?_
 refine L_nw (Al.cells [nv 0, nv 0]) .ptr rfl rfl kr ?_
 have c18 : Cl (h.push (Al.cells [nv 0, nv 0]).obj) h.next [nv 0, nv 0] := Cl.new h _
 have t18 : Sm Nix h (h.push (Al.cells [nv 0, nv 0]).obj) := .push h _
 have n18 : (h.push (Al.cells [nv 0, nv 0]).obj).next = h.next + 1 := rfl
 generalize h.push (Al.cells [nv 0, nv 0]).obj = h18 at c18 t18 n18 ⊢
 have T18 : Sm Nix h h18 := T0.ext t18
 have N18 := T18.nx
 obtain ⟨h19, e19, d19, t19, n19⟩ := Cl.storeN (P := Try.prog) (T := 96) (n := 2) (v := .agg ⟨[nv a, nv b]⟩) (cs := [nv a, nv b]) c18 rfl kr rfl rfl (List.all_eq_true.1 rfl)
 replace c18 := d19
 have T19 : Sm Nix h h19 := T18.trans t19 (fun x hx => by have hx : x = h.next := hx; first | exact .inr (by omega) | exact .inl (by subst hx; first | rfl | exact .inl rfl | exact .inr rfl | exact .inr (.inl rfl) | exact .inr (.inr rfl) | (show _ < _; omega)))
 have N19 := T19.nx
 refine L_st _ rfl rfl rfl kr kr (e19) ?_
 refine L_nil ?_
 refine W_drawn kr ?_
 refine D_e (e := 7) (l := [0, 1, 2, 3, 4, 5, 6]) (s' := []) kr kr rfl kr Rk_nil ?_
 refine NS_b 3 kr ?_
 refine NS_ld _ rfl rfl kr kr kr ((R.ext T19).wdL.ld (o := 2) kr rfl) ?_
 refine NS_ld _ rfl rfl kr kr kr (Cl.allN (n := 2) c18 rfl kr) ?_
 refine NS_b 1 kr ?_
 refine NS_newR (Al.cells [.iface ty u]) (.sl 1 1) rfl kr rfl rfl kr (Rk_1 rfl rfl (Rk_1 rfl rfl (Rk_1 rfl rfl (Rk_ld _ rfl rfl rfl kr ((R.ext (T19.ext (.push h19 _))).wdL.ld (o := 2) kr rfl) kr (Rk_ld _ rfl rfl rfl kr (Cl.allN (n := 2) (c18.ext (.push h19 _)) rfl kr) kr (Rk_1 rfl rfl (Rk_1 rfl rfl Rk_nil))))))) ?_
 have c20 : Cl (h19.push (Al.cells [.iface ty u]).obj) h19.next [.iface ty u] := Cl.new h19 _
 have t20 : Sm Nix h19 (h19.push (Al.cells [.iface ty u]).obj) := .push h19 _
 have n20 : (h19.push (Al.cells [.iface ty u]).obj).next = h19.next + 1 := rfl
 generalize h19.push (Al.cells [.iface ty u]).obj = h20 at c20 t20 n20 ⊢
 replace c18 := c18.ext t20
 have T20 : Sm Nix h h20 := T19.ext t20
 have N20 := T20.nx
 refine NS_nil ?_
 have Rb := R.ext T20
 obtain ⟨m, hm, hmb, hmC, hmN, hmS⟩ := Rb.waysN
 obtain ⟨v21, st21, h21, e21, hv21, t21, n21, mp21, mb21, up21⟩ := hm.entry (P := Try.prog) (T := 73) (kt := 96) (el := 97) (z := (.slice none 0 0)) kr k_way kr hmb (a, b)
 have hv21 : v21 = G.S (.way a b) := hv21.trans (hmS a b)
 subst hv21
 obtain ⟨R21, X21⟩ := Rb.touch (kset_nodup hmN _ _) (fun i j => (hw_kset (G := G) hmS i j).trans (by rw [ups_id])) mp21 mb21 t21
 have Y21 := (Gx.of T20).trans X21
 refine L_me (.tuple ⟨[G.S (.way a b), .int .i64 st21]⟩) h21 rfl rfl kr kr e21 ?_
 replace c18 := c18.sm t21 (show ¬ _ = _ by omega)
 replace c20 := c20.sm t21 (show ¬ _ = _ by omega)
 have T21 : Sm (fun c => vb (G.S (.way a b)) = some c) h21 h21 := .refl
 refine L_nil ⟨rfl, ?_⟩
 refine D_e (e := 9) (l := [8, 10]) (s' := [10]) kr kr rfl kr Rk_nil ?_
 refine NS_b 2 kr ?_
 refine NS_nil ?_
 obtain ⟨cs22, g022, ls22⟩ := R21.way a b
 obtain ⟨v22, h22, e22, g22, t22, f22⟩ := g022.append (P := Try.prog) (sT := 97) (xT := 97) (el := 99) (by_ := 16) (z := .nilIface) (m := 1) (ds := [.iface ty u]) kr kr kr kr kr rfl (by decide) (c20.sd rfl) (fun x hx => by cases List.mem_singleton.1 hx; rfl) (by omega)
 refine L_bi v22 h22 rfl rfl kr (vs := [G.S (.way a b), .slice (some ⟨h19.next, 0, none⟩) 1 1]) kr (bi_append e22) ?_
 replace c18 := c18.lt
 replace c20 := c20.lt
 have T22 : Sm (fun c => vb (G.S (.way a b)) = some c) h21 h22 := T21.then t22
 have N22 := T22.nx
 refine L_nil ⟨rfl, ?_⟩
 refine D_e (e := 11) (l := []) (s' := []) kr kr rfl kr (Rk_noRead kr) ?_
 refine NS_nil ?_
 have hnw : ¬ vb (G.S (.way a b)) = some (G.B .ways) := fun e => by
  have := R21.op.inj (.way a b) .ways _ (by obtain ⟨cs, e2, _⟩ := R21.rel.way a b; rw [e2]; simp) (by obtain ⟨m, e2, _⟩ := R21.rel.ways; rw [e2]; simp) (vb_vbx e) rfl
  cases this
 obtain ⟨h23, e23, mp23, mb23, t23, n23⟩ := up21 _ v22 (T22.get _ R21.waysLt hnw) (Nat.lt_of_lt_of_le R21.waysLt T22.nx)
 refine L_es h23 rfl rfl rfl kr kr kr e23 ?_
 have hN := R21.setWay a b (l := W.way a b ++ [x]) (v := v22) (kset_nodup hmN _ _) (hw_kset (G := G) hmS) (ls22.app (Ls.one ⟨_, hx.mono (Gx.dr Y21 R.op), rfl⟩ rfl)) (by rw [List.length_append]; exact g22) T22 (fun c hc => .inl hc) (fun c hc => f22 c hc) mp23 mb23 t23
 have hN := Nxt.after (G := G) hN Y21
 refine L_nil ⟨rfl, ?_⟩
 refine D_l (l := []) kr kr Rk_nil ?_
 refine NS_nil ?_
 repeat with_reducible refine blk_norm ?_
 refine done_of (v := .tuple ⟨[]⟩) (.inr rfl) kr ?_
 exact hN
end
end Go.Proofs.Ytmehemeoaplepaa
namespace Go.Arm
noncomputable section
open Go Go.X
theorem Cl.storeAt {P : Program} {h : AH} {b o : Nat} {l vs : List Value} {v : Value} {T : TypeId} (hc : Cl h b l) (hz : szOf P T = some vs.length) (hv : cellsL v = vs) (ho : o + vs.length ≤ l.length) (h1 : ∀ x, x ∈ vs → x.oneCell' = true) :
  ∃ h', aStore P T ⟨b, o, none⟩ v h = some h' ∧ Cl h' b (l.take o ++ vs ++ l.drop (o + vs.length)) ∧ Sm (fun k => k = b) h h' ∧ h'.next = h.next := by
 obtain ⟨h2, e1, c1, s1, n1⟩ := Cl.setcs (o := o) (vs := vs) (i := 0) hc (by omega) h1
 refine ⟨h2, ?_, c1, s1, n1⟩
 unfold aStore
 simp only [hz, hv, if_true]
 exact e1
theorem Rk_i {P : Program} {n : Nat} {ops : Array Oper} {f : Fr} {h : AH} {i : Nat} {r : List Nat} {o : Oper} {op : BinOp} {T T' : TypeId} {x y : Operand} {g : Int → Int → Value} {d : Nat} (a b : Int) (v : Value) (ho : ops[i]? = some o) (hop : o.op = .binOp op T x y T') (hd : o.dst = some d) (hx : ev n f x = some (.int .i64 a)) (hy : ev n f y = some (.int .i64 b)) (hg : kInt op = some g) (hv : g a b = v) (hf : f d = v) (k : Rk P n ops f h r) : Rk P n ops f h (i :: r) :=
 Rk_v (v := v) ho hd (by rw [hop, ev_int hx hy hg, hv]) hf k
theorem ld_sm {P : Program} {h h' : AH} {S : Nat → Prop} {T : TypeId} {b o : Nat} {v : Value} (hs : scalT P T = true) (hl : aLoad P T ⟨b, o, none⟩ h = some v) (s : Sm S h h') (lt : b < h.next) (hn : ¬ S b) : aLoad P T ⟨b, o, none⟩ h' = some v := by
 unfold scalT at hs
 cases hu : P.underlying T with
 | none => rw [hu] at hs; cases hs
 | some d =>
  rw [hu] at hs
  have hs : isAg d = false := by simpa using hs
  unfold aLoad at hl ⊢
  simp only [hu, hs] at hl ⊢
  exact (cell_sm s lt hn).trans hl
theorem erase_map {α : Type} (f : α → Value) {l : List α} {i : Nat} : (l.map f).take (i * 1) ++ (l.map f).drop (i * 1 + 1) = (l.eraseIdx i).map f := by
 rw [Nat.mul_one, List.eraseIdx_eq_take_drop_succ, List.map_append, List.map_take, List.map_drop]
theorem Gr.open {h : AH} {k n : Nat} {v : Value} {cs : List Value} (g : Gr h k v n cs) (hn : 0 < n) : ∃ b o cc nn, v = .slice (some ⟨b, o, none⟩) n open_ ∧ b < h.next ∧ h.m.get b = some (.cells cc nn k false) ∧ o + n * k ≤ nn ∧ ∀ j, j < cs.length → cc.get (o + j) = cs[j]? := by
 rcases g.2 with ⟨h0, _⟩ | ⟨b, o, cc, nn, e, h2, h3, h4, h5, h6⟩
 · omega
 · exact ⟨b, o, cc, nn, e, h2, h3, h5, h6⟩
end
end Go.Arm
namespace Go.Proofs.Ytmehemeoaplepaa
noncomputable section
open Go Go.X Go.Arm Go.Mt
theorem bv_one (d : By) : ∀ x, x ∈ d.map bv → x.oneCell' = true := by
 intro x hx
 obtain ⟨y, _, rfl⟩ := List.mem_map.1 hx
 rfl
theorem gets_ok {W : Wd} {G : Gh} {h : AH} {p no : Nat} {dv : Value} {d : By} (R : Rep W G h) (hp : p < W.n) (hr : G.C (.rq p no) ≠ .no) (H : Dr h G.ro dv d) (hl : d.length < big) (h0 : 0 ≤ (W.rq p no).room) :
   Arm.Calls Try.prog 64 [ptr (G.B (.rq p no)), dv] h (fun r => Nxt (W.setRq p no ((W.rq p no).gets d)) G h r.2) := by
 obtain ⟨dv0, hd0, c0⟩ := R.rqL hp hr
 replace c0 : Cl h (G.B (.rq p no)) [nk (W.rq p no).no, nv (W.rq p no).peer, nv (W.rq p no).ctx, nv (W.rq p no).tag, nv (W.rq p no).room, .bool (W.rq p no).send, .bool (W.rq p no).sync, .bool (W.rq p no).pers, .bool (W.rq p no).act, .bool (W.rq p no).done, nk (W.rq p no).parts, nk (W.rq p no).size, dv0, G.S (.pcs p no), nk (W.rq p no).gone, G.S (.snt p no), .bool (W.rq p no).clr, nv (W.rq p no).st.src, nv (W.rq p no).st.tag, nv (W.rq p no).st.size, nv (W.rq p no).st.err] := c0
 by_cases hparts : (W.rq p no).parts = 0
 · by_cases hroom : (W.rq p no).room < d.length
   · have hg : (W.rq p no).gets d = { W.rq p no with data := d.take (W.rq p no).room.toNat, done := true, st := { (W.rq p no).st with err := 15 } } := if_pos ⟨hparts, hroom⟩
     rw [hg]
     refine Calls_of_W (n := 42) (fn := Try.f64) kr rfl rfl (Nat.le_of_ble_eq_true rfl) trivial ⟨.inr (by simp), rfl⟩ ?_
     have T0 : Sm (fun c => c = G.B (.rq p no)) h h := .refl
     refine W_seq ?_
     refine W_region ?_
     refine L_g 3 kr ?_
     refine L_c rfl rfl kr (clone_by H.1 (bv_one d) (by rw [List.length_map]; exact hl)) ?_
     rintro v24 h24 ⟨r24, k24, t24, f24, s24⟩
     dsimp only at r24 k24 t24 f24 s24
     obtain ⟨R24, X24⟩ := R.more (Q := fun b => vb v24 = some b) t24 (fun b hb => (f24 b hb).1) (fun b hb => (f24 b hb).2)
     obtain ⟨va24, vc24, ev24⟩ := r24.form
     subst ev24
     have hlt24 : ∀ b, vb (Value.slice va24 (d.map bv).length vc24) = some b → ¬ b = G.B (.rq p no) := fun b hb e => by have := (f24 b hb).1; have := c0.lt; omega
     obtain ⟨vq, eq, rq, kq, bq⟩ := r24.cut k24 (P := Try.prog) (T := 23) (el := 5) (m := (W.rq p no).room.toNat) kr kr (by rw [List.length_map]; omega) .i64
     have hroom2 : ((((W.rq p no).room.toNat : Nat) : Int)) = (W.rq p no).room := by omega
     rw [hroom2] at eq
     obtain ⟨wa, wc, ew⟩ := rq.form
     subst ew
     replace c0 := c0.ext t24
     have T24 : Sm (fun c => c = G.B (.rq p no)) h24 h24 := .refl
     refine L_g 2 kr ?_
     obtain ⟨h25, e25, d25, t25, n25⟩ := c0.store (P := Try.prog) (T := 23) (o := 12) (v := .slice va24 (d.map bv).length vc24) kr rfl rfl (by simp)
     replace d25 : Cl h25 (G.B (.rq p no)) [nk (W.rq p no).no, nv (W.rq p no).peer, nv (W.rq p no).ctx, nv (W.rq p no).tag, nv (W.rq p no).room, .bool (W.rq p no).send, .bool (W.rq p no).sync, .bool (W.rq p no).pers, .bool (W.rq p no).act, .bool (W.rq p no).done, nk (W.rq p no).parts, nk (W.rq p no).size, .slice va24 (d.map bv).length vc24, G.S (.pcs p no), nk (W.rq p no).gone, G.S (.snt p no), .bool (W.rq p no).clr, nv (W.rq p no).st.src, nv (W.rq p no).st.tag, nv (W.rq p no).st.size, nv (W.rq p no).st.err] := d25
     replace c0 := d25
     have T25 : Sm (fun c => c = G.B (.rq p no)) h24 h25 := T24.trans t25 (fun x hx => by have hx : x = G.B (.rq p no) := hx; first | exact .inr (by omega) | exact .inl (by subst hx; first | rfl | exact .inl rfl | exact .inr rfl | exact .inr (.inl rfl) | exact .inr (.inr rfl) | (show _ < _; omega)))
     have N25 := T25.nx
     refine L_st _ rfl rfl rfl kr kr (e25) ?_
     refine L_g 2 kr ?_
     obtain ⟨h26, e26, d26, t26, n26⟩ := c0.store (P := Try.prog) (T := 4) (o := 9) (v := .bool true) kr rfl rfl (by simp)
     replace d26 : Cl h26 (G.B (.rq p no)) [nk (W.rq p no).no, nv (W.rq p no).peer, nv (W.rq p no).ctx, nv (W.rq p no).tag, nv (W.rq p no).room, .bool (W.rq p no).send, .bool (W.rq p no).sync, .bool (W.rq p no).pers, .bool (W.rq p no).act, .bool true, nk (W.rq p no).parts, nk (W.rq p no).size, .slice va24 (d.map bv).length vc24, G.S (.pcs p no), nk (W.rq p no).gone, G.S (.snt p no), .bool (W.rq p no).clr, nv (W.rq p no).st.src, nv (W.rq p no).st.tag, nv (W.rq p no).st.size, nv (W.rq p no).st.err] := d26
     replace c0 := d26
     have T26 : Sm (fun c => c = G.B (.rq p no)) h24 h26 := T25.trans t26 (fun x hx => by have hx : x = G.B (.rq p no) := hx; first | exact .inr (by omega) | exact .inl (by subst hx; first | rfl | exact .inl rfl | exact .inr rfl | exact .inr (.inl rfl) | exact .inr (.inr rfl) | (show _ < _; omega)))
     have N26 := T26.nx
     refine L_st _ rfl rfl rfl kr kr (e26) ?_
     refine L_nil ?_
     refine W_seq ?_
     refine W_region ?_
     refine L_g 3 kr ?_
     refine L_ld _ rfl rfl kr (c0.ld (o := 10) kr rfl) ?_
     refine L_i (((W.rq p no).parts : Int)) (0) (.bool true) rfl rfl kr kr rfl (by rw [hparts]; rfl) ?_
     refine L_g 2 kr ?_
     refine L_want kr ?_
     refine L_ln _ rfl rfl kr (H.1.lenA (T := 23) (el := 5) kr _) ?_
     refine L_g 3 kr ?_
     refine L_want kr ?_
     refine L_ld _ rfl rfl kr (c0.ld (o := 4) kr rfl) ?_
     refine L_want kr ?_
     refine L_i (((d.map bv).length : Int)) ((W.rq p no).room) (.bool true) rfl rfl kr kr rfl (by simp; omega) ?_
     refine L_g 1 kr ?_
     refine L_nil ?_
     refine W_cond true kr (fun _ => ?_) (fun e => by cases e)
     refine W_drawn kr ?_
     refine D_e (e := 13) (l := [0, 1, 2, 3, 4, 5, 6, 7, 8, 9, 10, 11, 12]) (s' := [1]) kr kr rfl kr Rk_nil ?_
     refine NS_b 5 kr ?_
     refine NS_ld _ rfl rfl kr kr kr (c0.ld (o := 12) kr rfl) ?_
     refine NS_b 3 kr ?_
     refine NS_ld _ rfl rfl kr kr kr (c0.ld (o := 4) kr rfl) ?_
     have hget := eq h26 (fun b hb => T26.get b ((f24 b hb).2) (hlt24 b hb))
     refine NS_sl _ rfl rfl kr kr kr kr kr kr (hget) ?_
     refine NS_b 2 kr ?_
     refine NS_nil ?_
     obtain ⟨h27, e27, d27, t27, n27⟩ := c0.store (P := Try.prog) (T := 23) (o := 12) (v := .slice wa ((d.map bv).take (W.rq p no).room.toNat).length wc) kr rfl rfl (by simp)
     replace d27 : Cl h27 (G.B (.rq p no)) [nk (W.rq p no).no, nv (W.rq p no).peer, nv (W.rq p no).ctx, nv (W.rq p no).tag, nv (W.rq p no).room, .bool (W.rq p no).send, .bool (W.rq p no).sync, .bool (W.rq p no).pers, .bool (W.rq p no).act, .bool true, nk (W.rq p no).parts, nk (W.rq p no).size, .slice wa ((d.map bv).take (W.rq p no).room.toNat).length wc, G.S (.pcs p no), nk (W.rq p no).gone, G.S (.snt p no), .bool (W.rq p no).clr, nv (W.rq p no).st.src, nv (W.rq p no).st.tag, nv (W.rq p no).st.size, nv (W.rq p no).st.err] := d27
     replace c0 := d27
     have T27 : Sm (fun c => c = G.B (.rq p no)) h24 h27 := T26.trans t27 (fun x hx => by have hx : x = G.B (.rq p no) := hx; first | exact .inr (by omega) | exact .inl (by subst hx; first | rfl | exact .inl rfl | exact .inr rfl | exact .inr (.inl rfl) | exact .inr (.inr rfl) | (show _ < _; omega)))
     have N27 := T27.nx
     refine L_st _ rfl rfl rfl kr kr (e27) ?_
     refine L_nil ⟨rfl, ?_⟩
     refine D_e (e := 17) (l := [14, 15, 16]) (s' := []) kr kr rfl kr (Rk_noRead kr) ?_
     refine NS_b 3 kr ?_
     refine NS_nil ?_
     obtain ⟨h28, e28, d28, t28, n28⟩ := c0.store (P := Try.prog) (T := 26) (o := 20) (v := nv 15) kr rfl rfl (by simp)
     replace d28 : Cl h28 (G.B (.rq p no)) [nk (W.rq p no).no, nv (W.rq p no).peer, nv (W.rq p no).ctx, nv (W.rq p no).tag, nv (W.rq p no).room, .bool (W.rq p no).send, .bool (W.rq p no).sync, .bool (W.rq p no).pers, .bool (W.rq p no).act, .bool true, nk (W.rq p no).parts, nk (W.rq p no).size, .slice wa ((d.map bv).take (W.rq p no).room.toNat).length wc, G.S (.pcs p no), nk (W.rq p no).gone, G.S (.snt p no), .bool (W.rq p no).clr, nv (W.rq p no).st.src, nv (W.rq p no).st.tag, nv (W.rq p no).st.size, nv 15] := d28
     replace c0 := d28
     have T28 : Sm (fun c => c = G.B (.rq p no)) h24 h28 := T27.trans t28 (fun x hx => by have hx : x = G.B (.rq p no) := hx; first | exact .inr (by omega) | exact .inl (by subst hx; first | rfl | exact .inl rfl | exact .inr rfl | exact .inr (.inl rfl) | exact .inr (.inr rfl) | (show _ < _; omega)))
     have N28 := T28.nx
     refine L_st _ rfl rfl rfl kr kr (e28) ?_
     refine L_nil ⟨rfl, ?_⟩
     refine D_l (l := []) kr kr Rk_nil ?_
     refine NS_nil ?_
     repeat with_reducible refine blk_norm ?_
     refine done_of (v := .tuple ⟨[]⟩) (.inr rfl) kr ?_
     have hN := R24.setRq hp hr (r := { (W.rq p no) with data := d.take (W.rq p no).room.toNat, done := true, st := { (W.rq p no).st with err := 15 } }) (dv := (.slice wa ((d.map bv).take (W.rq p no).room.toNat).length wc)) (c0) T28 (fun k hk => .inl hk) (⟨by have := rq.sm T28 (fun b hb => hlt24 b (bq ▸ hb)); show Rb _ _ (List.map bv (d.take _)); rw [List.map_take]; exact this, fun b hb => .inr (bq ▸ hb)⟩) rfl rfl
     exact ⟨_, _, _, hN.1, X24.trans hN.2⟩
   · have hg : (W.rq p no).gets d = { W.rq p no with data := d, done := true } := if_neg (fun e => hroom e.2)
     rw [hg]
     refine Calls_of_W (n := 42) (fn := Try.f64) kr rfl rfl (Nat.le_of_ble_eq_true rfl) trivial ⟨.inr (by simp), rfl⟩ ?_
     have T0 : Sm (fun c => c = G.B (.rq p no)) h h := .refl
     refine W_seq ?_
     refine W_region ?_
     refine L_g 3 kr ?_
     refine L_c rfl rfl kr (clone_by H.1 (bv_one d) (by rw [List.length_map]; exact hl)) ?_
     rintro v29 h29 ⟨r29, k29, t29, f29, s29⟩
     dsimp only at r29 k29 t29 f29 s29
     obtain ⟨R29, X29⟩ := R.more (Q := fun b => vb v29 = some b) t29 (fun b hb => (f29 b hb).1) (fun b hb => (f29 b hb).2)
     obtain ⟨va29, vc29, ev29⟩ := r29.form
     subst ev29
     have hlt29 : ∀ b, vb (Value.slice va29 (d.map bv).length vc29) = some b → ¬ b = G.B (.rq p no) := fun b hb e => by have := (f29 b hb).1; have := c0.lt; omega
     replace c0 := c0.ext t29
     have T29 : Sm (fun c => c = G.B (.rq p no)) h29 h29 := .refl
     refine L_g 2 kr ?_
     obtain ⟨h30, e30, d30, t30, n30⟩ := c0.store (P := Try.prog) (T := 23) (o := 12) (v := .slice va29 (d.map bv).length vc29) kr rfl rfl (by simp)
     replace d30 : Cl h30 (G.B (.rq p no)) [nk (W.rq p no).no, nv (W.rq p no).peer, nv (W.rq p no).ctx, nv (W.rq p no).tag, nv (W.rq p no).room, .bool (W.rq p no).send, .bool (W.rq p no).sync, .bool (W.rq p no).pers, .bool (W.rq p no).act, .bool (W.rq p no).done, nk (W.rq p no).parts, nk (W.rq p no).size, .slice va29 (d.map bv).length vc29, G.S (.pcs p no), nk (W.rq p no).gone, G.S (.snt p no), .bool (W.rq p no).clr, nv (W.rq p no).st.src, nv (W.rq p no).st.tag, nv (W.rq p no).st.size, nv (W.rq p no).st.err] := d30
     replace c0 := d30
     have T30 : Sm (fun c => c = G.B (.rq p no)) h29 h30 := T29.trans t30 (fun x hx => by have hx : x = G.B (.rq p no) := hx; first | exact .inr (by omega) | exact .inl (by subst hx; first | rfl | exact .inl rfl | exact .inr rfl | exact .inr (.inl rfl) | exact .inr (.inr rfl) | (show _ < _; omega)))
     have N30 := T30.nx
     refine L_st _ rfl rfl rfl kr kr (e30) ?_
     refine L_g 2 kr ?_
     obtain ⟨h31, e31, d31, t31, n31⟩ := c0.store (P := Try.prog) (T := 4) (o := 9) (v := .bool true) kr rfl rfl (by simp)
     replace d31 : Cl h31 (G.B (.rq p no)) [nk (W.rq p no).no, nv (W.rq p no).peer, nv (W.rq p no).ctx, nv (W.rq p no).tag, nv (W.rq p no).room, .bool (W.rq p no).send, .bool (W.rq p no).sync, .bool (W.rq p no).pers, .bool (W.rq p no).act, .bool true, nk (W.rq p no).parts, nk (W.rq p no).size, .slice va29 (d.map bv).length vc29, G.S (.pcs p no), nk (W.rq p no).gone, G.S (.snt p no), .bool (W.rq p no).clr, nv (W.rq p no).st.src, nv (W.rq p no).st.tag, nv (W.rq p no).st.size, nv (W.rq p no).st.err] := d31
     replace c0 := d31
     have T31 : Sm (fun c => c = G.B (.rq p no)) h29 h31 := T30.trans t31 (fun x hx => by have hx : x = G.B (.rq p no) := hx; first | exact .inr (by omega) | exact .inl (by subst hx; first | rfl | exact .inl rfl | exact .inr rfl | exact .inr (.inl rfl) | exact .inr (.inr rfl) | (show _ < _; omega)))
     have N31 := T31.nx
     refine L_st _ rfl rfl rfl kr kr (e31) ?_
     refine L_nil ?_
     refine W_seq ?_
     refine W_region ?_
     refine L_g 3 kr ?_
     refine L_ld _ rfl rfl kr (c0.ld (o := 10) kr rfl) ?_
     refine L_i (((W.rq p no).parts : Int)) (0) (.bool true) rfl rfl kr kr rfl (by rw [hparts]; rfl) ?_
     refine L_g 2 kr ?_
     refine L_want kr ?_
     refine L_ln _ rfl rfl kr (H.1.lenA (T := 23) (el := 5) kr _) ?_
     refine L_g 3 kr ?_
     refine L_want kr ?_
     refine L_ld _ rfl rfl kr (c0.ld (o := 4) kr rfl) ?_
     refine L_want kr ?_
     refine L_i (((d.map bv).length : Int)) ((W.rq p no).room) (.bool false) rfl rfl kr kr rfl (by simp; omega) ?_
     refine L_g 1 kr ?_
     refine L_nil ?_
     refine W_cond false kr (fun e => by cases e) (fun _ => ?_)
     refine W_skip ?_
     repeat with_reducible refine blk_norm ?_
     refine done_of (v := .tuple ⟨[]⟩) (.inr rfl) kr ?_
     have hN := R29.setRq hp hr (r := { (W.rq p no) with data := d, done := true }) (dv := (.slice va29 (d.map bv).length vc29)) (c0) T31 (fun k hk => .inl hk) (⟨r29.sm T31 hlt29, fun b hb => .inr hb⟩) rfl rfl
     exact ⟨_, _, _, hN.1, X29.trans hN.2⟩
 · have hg : (W.rq p no).gets d = { W.rq p no with data := d, done := true } := if_neg (fun e => hparts e.1)
   rw [hg]
   refine Calls_of_W (n := 42) (fn := Try.f64) kr rfl rfl (Nat.le_of_ble_eq_true rfl) trivial ⟨.inr (by simp), rfl⟩ ?_
   have T0 : Sm (fun c => c = G.B (.rq p no)) h h := .refl
   refine W_seq ?_
   refine W_region ?_
   refine L_g 3 kr ?_
   refine L_c rfl rfl kr (clone_by H.1 (bv_one d) (by rw [List.length_map]; exact hl)) ?_
   rintro v32 h32 ⟨r32, k32, t32, f32, s32⟩
   dsimp only at r32 k32 t32 f32 s32
   obtain ⟨R32, X32⟩ := R.more (Q := fun b => vb v32 = some b) t32 (fun b hb => (f32 b hb).1) (fun b hb => (f32 b hb).2)
   obtain ⟨va32, vc32, ev32⟩ := r32.form
   subst ev32
   have hlt32 : ∀ b, vb (Value.slice va32 (d.map bv).length vc32) = some b → ¬ b = G.B (.rq p no) := fun b hb e => by have := (f32 b hb).1; have := c0.lt; omega
   replace c0 := c0.ext t32
   have T32 : Sm (fun c => c = G.B (.rq p no)) h32 h32 := .refl
   refine L_g 2 kr ?_
   obtain ⟨h33, e33, d33, t33, n33⟩ := c0.store (P := Try.prog) (T := 23) (o := 12) (v := .slice va32 (d.map bv).length vc32) kr rfl rfl (by simp)
   replace d33 : Cl h33 (G.B (.rq p no)) [nk (W.rq p no).no, nv (W.rq p no).peer, nv (W.rq p no).ctx, nv (W.rq p no).tag, nv (W.rq p no).room, .bool (W.rq p no).send, .bool (W.rq p no).sync, .bool (W.rq p no).pers, .bool (W.rq p no).act, .bool (W.rq p no).done, nk (W.rq p no).parts, nk (W.rq p no).size, .slice va32 (d.map bv).length vc32, G.S (.pcs p no), nk (W.rq p no).gone, G.S (.snt p no), .bool (W.rq p no).clr, nv (W.rq p no).st.src, nv (W.rq p no).st.tag, nv (W.rq p no).st.size, nv (W.rq p no).st.err] := d33
   replace c0 := d33
   have T33 : Sm (fun c => c = G.B (.rq p no)) h32 h33 := T32.trans t33 (fun x hx => by have hx : x = G.B (.rq p no) := hx; first | exact .inr (by omega) | exact .inl (by subst hx; first | rfl | exact .inl rfl | exact .inr rfl | exact .inr (.inl rfl) | exact .inr (.inr rfl) | (show _ < _; omega)))
   have N33 := T33.nx
   refine L_st _ rfl rfl rfl kr kr (e33) ?_
   refine L_g 2 kr ?_
   obtain ⟨h34, e34, d34, t34, n34⟩ := c0.store (P := Try.prog) (T := 4) (o := 9) (v := .bool true) kr rfl rfl (by simp)
   replace d34 : Cl h34 (G.B (.rq p no)) [nk (W.rq p no).no, nv (W.rq p no).peer, nv (W.rq p no).ctx, nv (W.rq p no).tag, nv (W.rq p no).room, .bool (W.rq p no).send, .bool (W.rq p no).sync, .bool (W.rq p no).pers, .bool (W.rq p no).act, .bool true, nk (W.rq p no).parts, nk (W.rq p no).size, .slice va32 (d.map bv).length vc32, G.S (.pcs p no), nk (W.rq p no).gone, G.S (.snt p no), .bool (W.rq p no).clr, nv (W.rq p no).st.src, nv (W.rq p no).st.tag, nv (W.rq p no).st.size, nv (W.rq p no).st.err] := d34
   replace c0 := d34
   have T34 : Sm (fun c => c = G.B (.rq p no)) h32 h34 := T33.trans t34 (fun x hx => by have hx : x = G.B (.rq p no) := hx; first | exact .inr (by omega) | exact .inl (by subst hx; first | rfl | exact .inl rfl | exact .inr rfl | exact .inr (.inl rfl) | exact .inr (.inr rfl) | (show _ < _; omega)))
   have N34 := T34.nx
   refine L_st _ rfl rfl rfl kr kr (e34) ?_
   refine L_nil ?_
   refine W_seq ?_
   refine W_region ?_
   refine L_g 3 kr ?_
   refine L_ld _ rfl rfl kr (c0.ld (o := 10) kr rfl) ?_
   refine L_i (((W.rq p no).parts : Int)) (0) (.bool false) rfl rfl kr kr rfl (by simp; omega) ?_
   refine L_g 9 kr ?_
   refine L_nil ?_
   refine W_cond false kr (fun e => by cases e) (fun _ => ?_)
   refine W_skip ?_
   repeat with_reducible refine blk_norm ?_
   refine done_of (v := .tuple ⟨[]⟩) (.inr rfl) kr ?_
   have hN := R32.setRq hp hr (r := { (W.rq p no) with data := d, done := true }) (dv := (.slice va32 (d.map bv).length vc32)) (c0) T34 (fun k hk => .inl hk) (⟨r32.sm T34 hlt32, fun b hb => .inr hb⟩) rfl rfl
   exact ⟨_, _, _, hN.1, X32.trans hN.2⟩
end
end Go.Proofs.Ytmehemeoaplepaa
namespace Go.Proofs.Ytmehemeoaplepaa
noncomputable section
open Go Go.X Go.Arm Go.Mt
theorem wrap_nat {a b : Nat} (h : a * b < big) : IntKind.i64.wrap ((a : Int) * (b : Int)) = ((a * b : Nat) : Int) := by
 have h : a * b < 1000000000 := h
 rw [← Int.natCast_mul, IntKind.wrap_i64]; omega
theorem fits_ok {W : Wd} {G : Gh} {h : AH} {p no : Nat} {e : En} (R : Rep W G h) (hp : p < W.n) (hr : G.C (.rq p no) ≠ .no) (hps : (W.rq p no).small) :
  Arm.Calls Try.prog 46 [ptr (G.B (.rq p no)), .agg ⟨[nv e.src, nv e.ctx, nv e.tag, nv e.size, nv e.parts]⟩] h (fun r => r.1 = .bool ((W.rq p no).fits e) ∧ Sm Nix h r.2) := by
 obtain ⟨dv0, hd0, c0⟩ := R.rqL hp hr
 replace c0 : Cl h (G.B (.rq p no)) [nk (W.rq p no).no, nv (W.rq p no).peer, nv (W.rq p no).ctx, nv (W.rq p no).tag, nv (W.rq p no).room, .bool (W.rq p no).send, .bool (W.rq p no).sync, .bool (W.rq p no).pers, .bool (W.rq p no).act, .bool (W.rq p no).done, nk (W.rq p no).parts, nk (W.rq p no).size, dv0, G.S (.pcs p no), nk (W.rq p no).gone, G.S (.snt p no), .bool (W.rq p no).clr, nv (W.rq p no).st.src, nv (W.rq p no).st.tag, nv (W.rq p no).st.size, nv (W.rq p no).st.err] := c0
 refine Calls_of_W (n := 73) (fn := Try.f46) kr rfl rfl (Nat.le_of_ble_eq_true rfl) trivial ⟨.inr (by simp), rfl⟩ ?_
 have T0 : Sm Nix h h := .refl
 refine W_seq ?_
 refine W_region ?_
 refine L_nw (Al.cells [nv e.src, nv e.ctx, nv e.tag, nv e.size, nv e.parts]) .ptr rfl rfl kr ?_
 have c35 : Cl (h.push (Al.cells [nv e.src, nv e.ctx, nv e.tag, nv e.size, nv e.parts]).obj) h.next [nv e.src, nv e.ctx, nv e.tag, nv e.size, nv e.parts] := Cl.new h _
 have t35 : Sm Nix h (h.push (Al.cells [nv e.src, nv e.ctx, nv e.tag, nv e.size, nv e.parts]).obj) := .push h _
 have n35 : (h.push (Al.cells [nv e.src, nv e.ctx, nv e.tag, nv e.size, nv e.parts]).obj).next = h.next + 1 := rfl
 generalize h.push (Al.cells [nv e.src, nv e.ctx, nv e.tag, nv e.size, nv e.parts]).obj = h35 at c35 t35 n35 ⊢
 replace c0 := c0.ext t35
 have T35 : Sm Nix h h35 := T0.ext t35
 have N35 := T35.nx
 refine L_g 1 kr ?_
 refine L_nil ?_
 refine W_seq_cut (fun fr hh => fr 0 = ptr (G.B (.rq p no)) ∧ fr 3 = ptr h.next ∧ Sm Nix h hh ∧ Cl hh h.next [nv e.src, nv e.ctx, nv e.tag, nv e.size, nv e.parts] ∧ Cl hh (G.B (.rq p no)) [nk (W.rq p no).no, nv (W.rq p no).peer, nv (W.rq p no).ctx, nv (W.rq p no).tag, nv (W.rq p no).room, .bool (W.rq p no).send, .bool (W.rq p no).sync, .bool (W.rq p no).pers, .bool (W.rq p no).act, .bool (W.rq p no).done, nk (W.rq p no).parts, nk (W.rq p no).size, dv0, G.S (.pcs p no), nk (W.rq p no).gone, G.S (.snt p no), .bool (W.rq p no).clr, nv (W.rq p no).st.src, nv (W.rq p no).st.tag, nv (W.rq p no).st.size, nv (W.rq p no).st.err] ∧ (W.rq p no).fits e = (e.parts == (W.rq p no).parts && ((W.rq p no).parts == 0 || e.size == (((W.rq p no).parts * (W.rq p no).size : Nat) : Int)))) ?_ ?_
 ·
  refine W_block ?_
  refine W_seq ?_
  rcases (W.rq p no).fits_split e with hc | hc | hc | hc | hc | hc | hc | hc
  ·
   obtain ⟨hc1, hres⟩ := hc
   refine W_drawn kr ?_
   refine D_l (l := [0, 1, 2, 3, 4, 5, 6, 7, 8, 9, 10, 11, 12, 13, 14, 15, 16, 17, 18, 19, 20, 21, 22, 23, 24, 25, 26, 27, 28, 29, 30, 31, 32, 33, 34, 35, 36, 37, 38, 39]) kr kr Rk_nil ?_
   refine NS_b 1 kr ?_
   refine NS_ld _ rfl rfl kr kr kr (c35.ld (o := 1) kr rfl) ?_
   refine NS_b 3 kr ?_
   refine NS_ld _ rfl rfl kr kr kr (c0.ld (o := 2) kr rfl) ?_
   refine NS_i (e.ctx) ((W.rq p no).ctx) (.bool true) rfl rfl kr kr kr kr rfl (by simp; omega) ?_
   refine NS_b 33 kr ?_
   refine NS_nil ?_
   refine W_cond true kr (fun _ => ?_) (fun e => by cases e)
   refine W_seq ?_
   refine W_region ?_
   refine L_g 1 kr ?_
   refine L_nil ?_
   refine W_ret ?_
   repeat first | with_reducible refine then_ret ?_ | with_reducible refine blk_ret ?_
   refine done_of (v := .bool false) (.inl rfl) kr ?_
   exact ⟨by rw [hres], T35⟩
  ·
   obtain ⟨hc1, hc2, hc3, hres⟩ := hc
   refine W_drawn kr ?_
   refine D_l (l := [0, 1, 2, 3, 4, 5, 6, 7, 8, 9, 10, 11, 12, 13, 14, 15, 16, 17, 18, 19, 20, 21, 22, 23, 24, 25, 26, 27, 28, 29, 30, 31, 32, 33, 34, 35, 36, 37, 38, 39]) kr kr Rk_nil ?_
   refine NS_b 1 kr ?_
   refine NS_ld _ rfl rfl kr kr kr (c35.ld (o := 1) kr rfl) ?_
   refine NS_b 3 kr ?_
   refine NS_ld _ rfl rfl kr kr kr (c0.ld (o := 2) kr rfl) ?_
   refine NS_i (e.ctx) ((W.rq p no).ctx) (.bool false) rfl rfl kr kr kr kr rfl (by simp; omega) ?_
   refine NS_b 4 kr ?_
   refine NS_ld _ rfl rfl kr kr kr (c0.ld (o := 1) kr rfl) ?_
   refine NS_i ((W.rq p no).peer) (-1) (.bool true) rfl rfl kr kr kr kr rfl (by simp; omega) ?_
   refine NS_b 4 kr ?_
   refine NS_ld _ rfl rfl kr kr kr (c0.ld (o := 1) kr rfl) ?_
   refine NS_b 1 kr ?_
   refine NS_ld _ rfl rfl kr kr kr (c35.ld (o := 0) kr rfl) ?_
   refine NS_i ((W.rq p no).peer) (e.src) (.bool true) rfl rfl kr kr kr kr rfl (by simp; omega) ?_
   refine NS_b 19 kr ?_
   refine NS_nil ?_
   refine W_cond true kr (fun _ => ?_) (fun e => by cases e)
   refine W_seq ?_
   refine W_region ?_
   refine L_g 1 kr ?_
   refine L_nil ?_
   refine W_ret ?_
   repeat first | with_reducible refine then_ret ?_ | with_reducible refine blk_ret ?_
   refine done_of (v := .bool false) (.inl rfl) kr ?_
   exact ⟨by rw [hres], T35⟩
  ·
   obtain ⟨hc1, hc2, hc4, hc5, hres⟩ := hc
   refine W_drawn kr ?_
   refine D_l (l := [0, 1, 2, 3, 4, 5, 6, 7, 8, 9, 10, 11, 12, 13, 14, 15, 16, 17, 18, 19, 20, 21, 22, 23, 24, 25, 26, 27, 28, 29, 30, 31, 32, 33, 34, 35, 36, 37, 38, 39]) kr kr Rk_nil ?_
   refine NS_b 1 kr ?_
   refine NS_ld _ rfl rfl kr kr kr (c35.ld (o := 1) kr rfl) ?_
   refine NS_b 3 kr ?_
   refine NS_ld _ rfl rfl kr kr kr (c0.ld (o := 2) kr rfl) ?_
   refine NS_i (e.ctx) ((W.rq p no).ctx) (.bool false) rfl rfl kr kr kr kr rfl (by simp; omega) ?_
   refine NS_b 4 kr ?_
   refine NS_ld _ rfl rfl kr kr kr (c0.ld (o := 1) kr rfl) ?_
   refine NS_i ((W.rq p no).peer) (-1) (.bool false) rfl rfl kr kr kr kr rfl (by simp; omega) ?_
   refine NS_b 14 kr ?_
   refine NS_ld _ rfl rfl kr kr kr (c0.ld (o := 3) kr rfl) ?_
   refine NS_i ((W.rq p no).tag) (-1) (.bool true) rfl rfl kr kr kr kr rfl (by simp; omega) ?_
   refine NS_b 4 kr ?_
   refine NS_ld _ rfl rfl kr kr kr (c0.ld (o := 3) kr rfl) ?_
   refine NS_b 1 kr ?_
   refine NS_ld _ rfl rfl kr kr kr (c35.ld (o := 2) kr rfl) ?_
   refine NS_i ((W.rq p no).tag) (e.tag) (.bool true) rfl rfl kr kr kr kr rfl (by simp; omega) ?_
   refine NS_b 3 kr ?_
   refine NS_nil ?_
   refine W_cond true kr (fun _ => ?_) (fun e => by cases e)
   refine W_seq ?_
   refine W_region ?_
   refine L_g 1 kr ?_
   refine L_nil ?_
   refine W_ret ?_
   repeat first | with_reducible refine then_ret ?_ | with_reducible refine blk_ret ?_
   refine done_of (v := .bool false) (.inl rfl) kr ?_
   exact ⟨by rw [hres], T35⟩
  ·
   obtain ⟨hc1, hc2, hc3, hc4, hc5, hres⟩ := hc
   refine W_drawn kr ?_
   refine D_l (l := [0, 1, 2, 3, 4, 5, 6, 7, 8, 9, 10, 11, 12, 13, 14, 15, 16, 17, 18, 19, 20, 21, 22, 23, 24, 25, 26, 27, 28, 29, 30, 31, 32, 33, 34, 35, 36, 37, 38, 39]) kr kr Rk_nil ?_
   refine NS_b 1 kr ?_
   refine NS_ld _ rfl rfl kr kr kr (c35.ld (o := 1) kr rfl) ?_
   refine NS_b 3 kr ?_
   refine NS_ld _ rfl rfl kr kr kr (c0.ld (o := 2) kr rfl) ?_
   refine NS_i (e.ctx) ((W.rq p no).ctx) (.bool false) rfl rfl kr kr kr kr rfl (by simp; omega) ?_
   refine NS_b 4 kr ?_
   refine NS_ld _ rfl rfl kr kr kr (c0.ld (o := 1) kr rfl) ?_
   refine NS_i ((W.rq p no).peer) (-1) (.bool true) rfl rfl kr kr kr kr rfl (by simp; omega) ?_
   refine NS_b 4 kr ?_
   refine NS_ld _ rfl rfl kr kr kr (c0.ld (o := 1) kr rfl) ?_
   refine NS_b 1 kr ?_
   refine NS_ld _ rfl rfl kr kr kr (c35.ld (o := 0) kr rfl) ?_
   refine NS_i ((W.rq p no).peer) (e.src) (.bool false) rfl rfl kr kr kr kr rfl (by simp; omega) ?_
   refine NS_b 6 kr ?_
   refine NS_ld _ rfl rfl kr kr kr (c0.ld (o := 3) kr rfl) ?_
   refine NS_i ((W.rq p no).tag) (-1) (.bool true) rfl rfl kr kr kr kr rfl (by simp; omega) ?_
   refine NS_b 4 kr ?_
   refine NS_ld _ rfl rfl kr kr kr (c0.ld (o := 3) kr rfl) ?_
   refine NS_b 1 kr ?_
   refine NS_ld _ rfl rfl kr kr kr (c35.ld (o := 2) kr rfl) ?_
   refine NS_i ((W.rq p no).tag) (e.tag) (.bool true) rfl rfl kr kr kr kr rfl (by simp; omega) ?_
   refine NS_b 3 kr ?_
   refine NS_nil ?_
   refine W_cond true kr (fun _ => ?_) (fun e => by cases e)
   refine W_seq ?_
   refine W_region ?_
   refine L_g 1 kr ?_
   refine L_nil ?_
   refine W_ret ?_
   repeat first | with_reducible refine then_ret ?_ | with_reducible refine blk_ret ?_
   refine done_of (v := .bool false) (.inl rfl) kr ?_
   exact ⟨by rw [hres], T35⟩
  ·
   obtain ⟨hc1, hc2, hc4, hres⟩ := hc
   refine W_drawn kr ?_
   refine D_l (l := [0, 1, 2, 3, 4, 5, 6, 7, 8, 9, 10, 11, 12, 13, 14, 15, 16, 17, 18, 19, 20, 21, 22, 23, 24, 25, 26, 27, 28, 29, 30, 31, 32, 33, 34, 35, 36, 37, 38, 39]) kr kr Rk_nil ?_
   refine NS_b 1 kr ?_
   refine NS_ld _ rfl rfl kr kr kr (c35.ld (o := 1) kr rfl) ?_
   refine NS_b 3 kr ?_
   refine NS_ld _ rfl rfl kr kr kr (c0.ld (o := 2) kr rfl) ?_
   refine NS_i (e.ctx) ((W.rq p no).ctx) (.bool false) rfl rfl kr kr kr kr rfl (by simp; omega) ?_
   refine NS_b 4 kr ?_
   refine NS_ld _ rfl rfl kr kr kr (c0.ld (o := 1) kr rfl) ?_
   refine NS_i ((W.rq p no).peer) (-1) (.bool false) rfl rfl kr kr kr kr rfl (by simp; omega) ?_
   refine NS_b 14 kr ?_
   refine NS_ld _ rfl rfl kr kr kr (c0.ld (o := 3) kr rfl) ?_
   refine NS_i ((W.rq p no).tag) (-1) (.bool false) rfl rfl kr kr kr kr rfl (by simp; omega) ?_
   refine NS_b 11 kr ?_
   refine NS_nil ?_
   refine W_cond false kr (fun e => by cases e) (fun _ => ?_)
   refine W_skip ?_
   exact ⟨by kernel_rfl, kr, T35, c35, c0, hres⟩
  ·
   obtain ⟨hc1, hc2, hc3, hc4, hres⟩ := hc
   refine W_drawn kr ?_
   refine D_l (l := [0, 1, 2, 3, 4, 5, 6, 7, 8, 9, 10, 11, 12, 13, 14, 15, 16, 17, 18, 19, 20, 21, 22, 23, 24, 25, 26, 27, 28, 29, 30, 31, 32, 33, 34, 35, 36, 37, 38, 39]) kr kr Rk_nil ?_
   refine NS_b 1 kr ?_
   refine NS_ld _ rfl rfl kr kr kr (c35.ld (o := 1) kr rfl) ?_
   refine NS_b 3 kr ?_
   refine NS_ld _ rfl rfl kr kr kr (c0.ld (o := 2) kr rfl) ?_
   refine NS_i (e.ctx) ((W.rq p no).ctx) (.bool false) rfl rfl kr kr kr kr rfl (by simp; omega) ?_
   refine NS_b 4 kr ?_
   refine NS_ld _ rfl rfl kr kr kr (c0.ld (o := 1) kr rfl) ?_
   refine NS_i ((W.rq p no).peer) (-1) (.bool true) rfl rfl kr kr kr kr rfl (by simp; omega) ?_
   refine NS_b 4 kr ?_
   refine NS_ld _ rfl rfl kr kr kr (c0.ld (o := 1) kr rfl) ?_
   refine NS_b 1 kr ?_
   refine NS_ld _ rfl rfl kr kr kr (c35.ld (o := 0) kr rfl) ?_
   refine NS_i ((W.rq p no).peer) (e.src) (.bool false) rfl rfl kr kr kr kr rfl (by simp; omega) ?_
   refine NS_b 6 kr ?_
   refine NS_ld _ rfl rfl kr kr kr (c0.ld (o := 3) kr rfl) ?_
   refine NS_i ((W.rq p no).tag) (-1) (.bool false) rfl rfl kr kr kr kr rfl (by simp; omega) ?_
   refine NS_b 11 kr ?_
   refine NS_nil ?_
   refine W_cond false kr (fun e => by cases e) (fun _ => ?_)
   refine W_skip ?_
   exact ⟨by kernel_rfl, kr, T35, c35, c0, hres⟩
  ·
   obtain ⟨hc1, hc2, hc4, hc5, hres⟩ := hc
   refine W_drawn kr ?_
   refine D_l (l := [0, 1, 2, 3, 4, 5, 6, 7, 8, 9, 10, 11, 12, 13, 14, 15, 16, 17, 18, 19, 20, 21, 22, 23, 24, 25, 26, 27, 28, 29, 30, 31, 32, 33, 34, 35, 36, 37, 38, 39]) kr kr Rk_nil ?_
   refine NS_b 1 kr ?_
   refine NS_ld _ rfl rfl kr kr kr (c35.ld (o := 1) kr rfl) ?_
   refine NS_b 3 kr ?_
   refine NS_ld _ rfl rfl kr kr kr (c0.ld (o := 2) kr rfl) ?_
   refine NS_i (e.ctx) ((W.rq p no).ctx) (.bool false) rfl rfl kr kr kr kr rfl (by simp; omega) ?_
   refine NS_b 4 kr ?_
   refine NS_ld _ rfl rfl kr kr kr (c0.ld (o := 1) kr rfl) ?_
   refine NS_i ((W.rq p no).peer) (-1) (.bool false) rfl rfl kr kr kr kr rfl (by simp; omega) ?_
   refine NS_b 14 kr ?_
   refine NS_ld _ rfl rfl kr kr kr (c0.ld (o := 3) kr rfl) ?_
   refine NS_i ((W.rq p no).tag) (-1) (.bool true) rfl rfl kr kr kr kr rfl (by simp; omega) ?_
   refine NS_b 4 kr ?_
   refine NS_ld _ rfl rfl kr kr kr (c0.ld (o := 3) kr rfl) ?_
   refine NS_b 1 kr ?_
   refine NS_ld _ rfl rfl kr kr kr (c35.ld (o := 2) kr rfl) ?_
   refine NS_i ((W.rq p no).tag) (e.tag) (.bool false) rfl rfl kr kr kr kr rfl (by simp; omega) ?_
   refine NS_b 3 kr ?_
   refine NS_nil ?_
   refine W_cond false kr (fun e => by cases e) (fun _ => ?_)
   refine W_skip ?_
   exact ⟨by kernel_rfl, kr, T35, c35, c0, hres⟩
  ·
   obtain ⟨hc1, hc2, hc3, hc4, hc5, hres⟩ := hc
   refine W_drawn kr ?_
   refine D_l (l := [0, 1, 2, 3, 4, 5, 6, 7, 8, 9, 10, 11, 12, 13, 14, 15, 16, 17, 18, 19, 20, 21, 22, 23, 24, 25, 26, 27, 28, 29, 30, 31, 32, 33, 34, 35, 36, 37, 38, 39]) kr kr Rk_nil ?_
   refine NS_b 1 kr ?_
   refine NS_ld _ rfl rfl kr kr kr (c35.ld (o := 1) kr rfl) ?_
   refine NS_b 3 kr ?_
   refine NS_ld _ rfl rfl kr kr kr (c0.ld (o := 2) kr rfl) ?_
   refine NS_i (e.ctx) ((W.rq p no).ctx) (.bool false) rfl rfl kr kr kr kr rfl (by simp; omega) ?_
   refine NS_b 4 kr ?_
   refine NS_ld _ rfl rfl kr kr kr (c0.ld (o := 1) kr rfl) ?_
   refine NS_i ((W.rq p no).peer) (-1) (.bool true) rfl rfl kr kr kr kr rfl (by simp; omega) ?_
   refine NS_b 4 kr ?_
   refine NS_ld _ rfl rfl kr kr kr (c0.ld (o := 1) kr rfl) ?_
   refine NS_b 1 kr ?_
   refine NS_ld _ rfl rfl kr kr kr (c35.ld (o := 0) kr rfl) ?_
   refine NS_i ((W.rq p no).peer) (e.src) (.bool false) rfl rfl kr kr kr kr rfl (by simp; omega) ?_
   refine NS_b 6 kr ?_
   refine NS_ld _ rfl rfl kr kr kr (c0.ld (o := 3) kr rfl) ?_
   refine NS_i ((W.rq p no).tag) (-1) (.bool true) rfl rfl kr kr kr kr rfl (by simp; omega) ?_
   refine NS_b 4 kr ?_
   refine NS_ld _ rfl rfl kr kr kr (c0.ld (o := 3) kr rfl) ?_
   refine NS_b 1 kr ?_
   refine NS_ld _ rfl rfl kr kr kr (c35.ld (o := 2) kr rfl) ?_
   refine NS_i ((W.rq p no).tag) (e.tag) (.bool false) rfl rfl kr kr kr kr rfl (by simp; omega) ?_
   refine NS_b 3 kr ?_
   refine NS_nil ?_
   refine W_cond false kr (fun e => by cases e) (fun _ => ?_)
   refine W_skip ?_
   exact ⟨by kernel_rfl, kr, T35, c35, c0, hres⟩
 ·
  clear T0 c0
  rintro fr hh ⟨y0, y3, T0, c3, c0, hres⟩
  refine W_set (k := 0) y0 ?_
  refine W_set (k := 3) y3 ?_
  refine W_seq ?_
  by_cases hd1 : e.parts = (W.rq p no).parts
  by_cases hd2 : (W.rq p no).parts = 0
  ·
   refine W_drawn kr ?_
   refine D_l (l := [0, 1, 2, 3, 4, 5, 6, 7, 8, 9, 10, 11, 12, 13, 14, 15, 16, 17, 18, 19, 20, 21, 22, 23, 24, 25, 26, 27, 28]) kr kr Rk_nil ?_
   refine NS_b 1 kr ?_
   refine NS_ld _ rfl rfl kr kr kr (c3.ld (o := 4) kr rfl) ?_
   refine NS_b 3 kr ?_
   refine NS_ld _ rfl rfl kr kr kr (c0.ld (o := 10) kr rfl) ?_
   refine NS_i (e.parts) (((W.rq p no).parts : Int)) (.bool true) rfl rfl kr kr kr kr rfl (by simp; omega) ?_
   refine NS_b 4 kr ?_
   refine NS_ld _ rfl rfl kr kr kr (c0.ld (o := 10) kr rfl) ?_
   refine NS_i (((W.rq p no).parts : Int)) (0) (.bool true) rfl rfl kr kr kr kr rfl (by simp; omega) ?_
   refine NS_b 16 kr ?_
   refine NS_nil ?_
   refine W_ret ?_
   repeat first | with_reducible refine then_ret ?_ | with_reducible refine blk_ret ?_
   refine done_of (v := .bool true) (.inl rfl) kr ?_
   exact ⟨by rw [hres]; simp [hd1, hd2], T0⟩
  ·
   refine W_drawn kr ?_
   refine D_l (l := [0, 1, 2, 3, 4, 5, 6, 7, 8, 9, 10, 11, 12, 13, 14, 15, 16, 17, 18, 19, 20, 21, 22, 23, 24, 25, 26, 27, 28]) kr kr Rk_nil ?_
   refine NS_b 1 kr ?_
   refine NS_ld _ rfl rfl kr kr kr (c3.ld (o := 4) kr rfl) ?_
   refine NS_b 3 kr ?_
   refine NS_ld _ rfl rfl kr kr kr (c0.ld (o := 10) kr rfl) ?_
   refine NS_i (e.parts) (((W.rq p no).parts : Int)) (.bool true) rfl rfl kr kr kr kr rfl (by simp; omega) ?_
   refine NS_b 4 kr ?_
   refine NS_ld _ rfl rfl kr kr kr (c0.ld (o := 10) kr rfl) ?_
   refine NS_i (((W.rq p no).parts : Int)) (0) (.bool false) rfl rfl kr kr kr kr rfl (by simp; omega) ?_
   refine NS_b 2 kr ?_
   refine NS_ld _ rfl rfl kr kr kr (c3.ld (o := 3) kr rfl) ?_
   refine NS_b 3 kr ?_
   refine NS_ld _ rfl rfl kr kr kr (c0.ld (o := 10) kr rfl) ?_
   refine NS_b 3 kr ?_
   refine NS_ld _ rfl rfl kr kr kr (c0.ld (o := 11) kr rfl) ?_
   refine NS_v (.int .i64 (IntKind.i64.wrap (((W.rq p no).parts : Int) * ((W.rq p no).size : Int)))) rfl kr rfl kr kr ?_
   refine NS_i (e.size) (IntKind.i64.wrap (((W.rq p no).parts : Int) * ((W.rq p no).size : Int))) (.bool (e.size == IntKind.i64.wrap (((W.rq p no).parts : Int) * ((W.rq p no).size : Int)))) rfl rfl kr kr kr kr rfl (rfl) ?_
   refine NS_b 3 kr ?_
   refine NS_nil ?_
   refine W_ret ?_
   repeat first | with_reducible refine then_ret ?_ | with_reducible refine blk_ret ?_
   refine done_of (v := .bool (e.size == IntKind.i64.wrap (((W.rq p no).parts : Int) * ((W.rq p no).size : Int)))) (.inl rfl) kr ?_
   exact ⟨by rw [hres, wrap_nat hps]; simp [hd1, hd2], T0⟩
  ·
   refine W_drawn kr ?_
   refine D_l (l := [0, 1, 2, 3, 4, 5, 6, 7, 8, 9, 10, 11, 12, 13, 14, 15, 16, 17, 18, 19, 20, 21, 22, 23, 24, 25, 26, 27, 28]) kr kr Rk_nil ?_
   refine NS_b 1 kr ?_
   refine NS_ld _ rfl rfl kr kr kr (c3.ld (o := 4) kr rfl) ?_
   refine NS_b 3 kr ?_
   refine NS_ld _ rfl rfl kr kr kr (c0.ld (o := 10) kr rfl) ?_
   refine NS_i (e.parts) (((W.rq p no).parts : Int)) (.bool false) rfl rfl kr kr kr kr rfl (by simp; omega) ?_
   refine NS_b 22 kr ?_
   refine NS_nil ?_
   refine W_ret ?_
   repeat first | with_reducible refine then_ret ?_ | with_reducible refine blk_ret ?_
   refine done_of (v := .bool false) (.inl rfl) kr ?_
   exact ⟨by rw [hres]; simp [hd1], T0⟩
end
end Go.Proofs.Ytmehemeoaplepaa
