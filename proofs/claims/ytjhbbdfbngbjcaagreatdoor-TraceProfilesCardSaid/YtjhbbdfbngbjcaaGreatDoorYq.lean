/- A part of the walks of profiles. -/
import Derived.Test.YtjhbbdfbngbjcaaGreatDoorYp
namespace Go.Proofs.YtjhbbdfbngbjcaaGreatDoor
noncomputable section
open Go Go.X Go.Arm
set_option maxHeartbeats 16000000 in
theorem law_ok {h : AH} {VA : Option Nat → Value} {N : Nat} {L : Lf} {C : TC} (I : TIn h (fun b => b < h.next) VA N L) (hL0 : ∀ p, N ≤ p → L p = [])
  (hcap : ∀ q, q < N → ∃ a c, VA (some q) = .slice a (L q).length c ∧ (L q).length ≤ c ∧ c < open_) : Arm.Calls Tryz.prog 3 [VA none, .agg ⟨[nv C.s, nv C.c, nv C.r, nv C.m]⟩] h (fun r => r.1 = .bool true) := by
 refine Calls_W 237 Tryz.f3 ?_
 have T0 : Sm Nix h h := .refl
 refine W_seq (W_region (L_nwc [nv C.s, nv C.c, nv C.r, nv C.m] .ptr rfl rfl kr fun h304 c304 t304 n304 => ?_))
 have T304 := T0.ext t304
 have N304 := T304.nx
 refine L_g 1 kr (L_nil (W_seq (W_seq ?_)))
 have h4 : (6 < N ∧ N ≤ 64) ∨ (6 < N ∧ 64 < N ∧ ¬ 80 < N) ∨ (6 < N ∧ 64 < N ∧ 80 < N) ∨ (¬ 6 < N ∧ ¬ 80 < N) := by omega
 rcases h4 with ⟨n1, n2⟩ | ⟨n1, n2, n3⟩ | ⟨n1, n2, n3⟩ | ⟨n1, n3⟩
 ·
  refine W_rg 1 kr (L_ln _ rfl rfl kr ((I.ext T304).len (T := 22) (el := 27) kr) (L_i ((N : Int)) (6) (.bool true) rfl rfl kr kr rfl (by simp; omega) (L_g 2 kr (L_want kr (L_ln _ rfl rfl kr ((I.ext T304).len (T := 22) (el := 27) kr) (L_want kr (L_i ((N : Int)) (64) (.bool true) rfl rfl kr kr rfl (by simp; omega) (L_g 6 kr (L_nil ?_)))))))))
  refine W_cond true kr (fun _ => ?_) (fun e => by cases e)
  refine W_seq (W_region (L_c rfl rfl kr (works_ok) ?_))
  rintro v12 h12 e12
  cases e12
  refine L_g 1 kr (L_nil (W_ret ?_))
  repeat first | with_reducible refine then_ret ?_ | with_reducible refine blk_ret ?_
  refine done_of (v := .bool true) (.inl rfl) kr ?_
  rfl
 ·
  refine W_rg 1 kr (L_ln _ rfl rfl kr ((I.ext T304).len (T := 22) (el := 27) kr) (L_i ((N : Int)) (6) (.bool true) rfl rfl kr kr rfl (by simp; omega) (L_g 2 kr (L_want kr (L_ln _ rfl rfl kr ((I.ext T304).len (T := 22) (el := 27) kr) (L_want kr (L_i ((N : Int)) (64) (.bool false) rfl rfl kr kr rfl (by simp; omega) (L_g 3 kr (L_want kr (L_ln _ rfl rfl kr ((I.ext T304).len (T := 22) (el := 27) kr) ?_))))))))))
  refine L_want kr (L_i ((N : Int)) (80) (.bool false) rfl rfl kr kr rfl (by simp; omega) (L_g 1 kr (L_nil ?_)))
  refine W_cond false kr (fun e => by cases e) (fun _ => ?_)
  refine W_skip (W_sg 1 kr (L_nil (W_seq (W_sg 1 kr (L_nil (W_block ?_))))))
  refine W_loop (fun mm fr hh => ∃ (p : Nat) (W : Nat → Value) (pa : Option Addr) (pc : Nat), (p ≤ N) ∧ (∀ q, q < p → (L q).length ≤ 10010) ∧ (Gr hh 1 (.slice pa p pc) p ((List.range p).map W)) ∧ (∀ b, vb (.slice pa p pc) = some b → h.next < b) ∧ (∀ q, q < p → Sd hh 6 (W q) (L q).length ((L q).flatMap ev6) ∧ ∀ b, vb (W q) = some b → vb (.slice pa p pc) ≠ some b) ∧ mm = N - p ∧ fr 0 = VA none ∧ fr 3 = ptr h.next ∧ fr 5 = .slice pa p pc ∧ fr 6 = nv (p : Int) ∧ Sm Nix h hh ∧ Cl hh (h.next) [nv C.s, nv C.c, nv C.r, nv C.m]) (N) ?_ ?_
  ·
   exact ⟨0, (fun _ => nilS), none, 0, Nat.zero_le _, (fun q hq => by omega), Gr.nil, (fun b hb => by cases hb), (fun q hq => by omega), rfl, kr, kr, kr, kr, T304, c304⟩
  rintro mm305 fr305 h305 ⟨p, W, pa, pc, hp, hlen, Gp, hpb, hrow, hm305, y305_0, y305_3, y305_5, y305_6, T305, c304⟩
  have N305 := T305.nx
  have B305_t3 := c304.lt
  refine W_set (k := 0) y305_0 (W_set (k := 3) y305_3 (W_set (k := 5) y305_5 (W_set (k := 6) y305_6 ?_)))
  have W305 : Sm (fun b => vb (.slice pa p pc) = some b) h305 h305 := .refl
  have Z305 : Sm Nix h305 h305 := .refl
  refine W_seq (W_sg 2 kr (L_ln _ rfl rfl kr ((I.ext T305).len (T := 22) (el := 27) kr) (L_g 1 kr (L_nil ?_))))
  refine W_cond (decide ((p : Int) < (N : Nat))) kr (fun hb => ?_) (fun hb => ?_)
  ·
   have hlt : p < N := by simp at hb; omega
   refine W_skip (W_seq (W_block (W_seq (W_seq ?_))))
   have h3 : (30 < (L p).length ∧ (L p).length ≤ 10000) ∨ (30 < (L p).length ∧ 10000 < (L p).length ∧ 10010 < (L p).length) ∨ (30 < (L p).length ∧ 10000 < (L p).length ∧ ¬ 10010 < (L p).length) ∨ (¬ 30 < (L p).length ∧ ¬ 10010 < (L p).length) := by omega
   rcases h3 with ⟨r1, r2⟩ | ⟨r1, r2, r3⟩ | ⟨r1, r2, r3⟩ | ⟨r1, r3⟩
   ·
    refine W_region (L_g 2 kr ?_)
    obtain ⟨b5, o5, i5, l5⟩ := (I.ext T305).row (T := 22) (el := 27) kr kr kr hlt
    refine L_ix _ rfl rfl kr kr (i5) (L_ld _ rfl rfl kr ((I.ext T305).rowLd (T := 22) (el := 27) kr kr kr hlt i5) (L_ln _ rfl rfl kr ((I.ext T305).lenR (T := 27) (el := 83) kr hlt) (L_i (((L p).length : Int)) (30) (.bool true) rfl rfl kr kr rfl (by simp; omega) (L_g 3 kr ?_))))
    obtain ⟨b5, o5, i5, l5⟩ := (I.ext T305).row (T := 22) (el := 27) kr kr kr hlt
    refine L_want kr (L_ix _ rfl rfl kr kr (i5) (L_want kr (L_ld _ rfl rfl kr ((I.ext T305).rowLd (T := 22) (el := 27) kr kr kr hlt i5) (L_want kr (L_ln _ rfl rfl kr ((I.ext T305).lenR (T := 27) (el := 83) kr hlt) (L_want kr (L_i (((L p).length : Int)) (10000) (.bool true) rfl rfl kr kr rfl (by simp; omega) (L_g 9 kr (L_nil ?_)))))))))
    refine W_cond true kr (fun _ => ?_) (fun e => by cases e)
    refine W_seq (W_region (L_c rfl rfl kr (works_ok) ?_))
    rintro v12 h12 e12
    cases e12
    refine L_g 1 kr (L_nil (W_ret ?_))
    repeat first | with_reducible refine then_ret ?_ | with_reducible refine blk_ret ?_
    refine done_of (v := .bool true) (.inl rfl) kr ?_
    rfl
   ·
    refine W_region (L_g 2 kr ?_)
    obtain ⟨b5, o5, i5, l5⟩ := (I.ext T305).row (T := 22) (el := 27) kr kr kr hlt
    refine L_ix _ rfl rfl kr kr (i5) (L_ld _ rfl rfl kr ((I.ext T305).rowLd (T := 22) (el := 27) kr kr kr hlt i5) (L_ln _ rfl rfl kr ((I.ext T305).lenR (T := 27) (el := 83) kr hlt) (L_i (((L p).length : Int)) (30) (.bool true) rfl rfl kr kr rfl (by simp; omega) (L_g 3 kr ?_))))
    obtain ⟨b5, o5, i5, l5⟩ := (I.ext T305).row (T := 22) (el := 27) kr kr kr hlt
    refine L_want kr (L_ix _ rfl rfl kr kr (i5) (L_want kr (L_ld _ rfl rfl kr ((I.ext T305).rowLd (T := 22) (el := 27) kr kr kr hlt i5) (L_want kr (L_ln _ rfl rfl kr ((I.ext T305).lenR (T := 27) (el := 83) kr hlt) (L_want kr (L_i (((L p).length : Int)) (10000) (.bool false) rfl rfl kr kr rfl (by simp; omega) (L_g 4 kr ?_))))))))
    obtain ⟨b5, o5, i5, l5⟩ := (I.ext T305).row (T := 22) (el := 27) kr kr kr hlt
    refine L_want kr (L_ix _ rfl rfl kr kr (i5) (L_want kr (L_ld _ rfl rfl kr ((I.ext T305).rowLd (T := 22) (el := 27) kr kr kr hlt i5) (L_want kr (L_ln _ rfl rfl kr ((I.ext T305).lenR (T := 27) (el := 83) kr hlt) (L_want kr (L_i (((L p).length : Int)) (10010) (.bool true) rfl rfl kr kr rfl (by simp; omega) (L_g 1 kr (L_nil ?_)))))))))
    refine W_cond true kr (fun _ => ?_) (fun e => by cases e)
    refine W_seq (W_region (L_c rfl rfl kr (works_ok) ?_))
    rintro v12 h12 e12
    cases e12
    refine L_g 1 kr (L_nil (W_ret ?_))
    repeat first | with_reducible refine then_ret ?_ | with_reducible refine blk_ret ?_
    refine done_of (v := .bool true) (.inl rfl) kr ?_
    rfl
   ·
    refine W_region (L_g 2 kr ?_)
    obtain ⟨b5, o5, i5, l5⟩ := (I.ext T305).row (T := 22) (el := 27) kr kr kr hlt
    refine L_ix _ rfl rfl kr kr (i5) (L_ld _ rfl rfl kr ((I.ext T305).rowLd (T := 22) (el := 27) kr kr kr hlt i5) (L_ln _ rfl rfl kr ((I.ext T305).lenR (T := 27) (el := 83) kr hlt) (L_i (((L p).length : Int)) (30) (.bool true) rfl rfl kr kr rfl (by simp; omega) (L_g 3 kr ?_))))
    obtain ⟨b5, o5, i5, l5⟩ := (I.ext T305).row (T := 22) (el := 27) kr kr kr hlt
    refine L_want kr (L_ix _ rfl rfl kr kr (i5) (L_want kr (L_ld _ rfl rfl kr ((I.ext T305).rowLd (T := 22) (el := 27) kr kr kr hlt i5) (L_want kr (L_ln _ rfl rfl kr ((I.ext T305).lenR (T := 27) (el := 83) kr hlt) (L_want kr (L_i (((L p).length : Int)) (10000) (.bool false) rfl rfl kr kr rfl (by simp; omega) (L_g 4 kr ?_))))))))
    obtain ⟨b5, o5, i5, l5⟩ := (I.ext T305).row (T := 22) (el := 27) kr kr kr hlt
    refine L_want kr (L_ix _ rfl rfl kr kr (i5) (L_want kr (L_ld _ rfl rfl kr ((I.ext T305).rowLd (T := 22) (el := 27) kr kr kr hlt i5) (L_want kr (L_ln _ rfl rfl kr ((I.ext T305).lenR (T := 27) (el := 83) kr hlt) (L_want kr (L_i (((L p).length : Int)) (10010) (.bool false) rfl rfl kr kr rfl (by simp; omega) (L_g 1 kr (L_nil ?_)))))))))
    refine W_cond false kr (fun e => by cases e) (fun _ => ?_)
    refine W_skip (W_region (L_g 3 kr ?_))
    obtain ⟨b5, o5, i5, l5⟩ := (I.ext T305).row (T := 22) (el := 27) kr kr kr hlt
    refine L_ix _ rfl rfl kr kr (i5) (L_ld _ rfl rfl kr ((I.ext T305).rowLd (T := 22) (el := 27) kr kr kr hlt i5) (L_c rfl rfl kr (events_ok ((I.ext T305).r p hlt) (by omega)) ?_))
    rintro v306 h306 ⟨Gw306, t306, hw306⟩
    dsimp only at Gw306 t306 hw306
    obtain ⟨ea306, ec306, rfl⟩ := Gw306.sd.form
    replace c304 := c304.ext t306
    have T306 := T305.ext t306
    have N306 := T306.nx
    have W306 : Sm (fun b => vb (.slice pa p pc) = some b) h305 h306 := W305.ext t306
    have NW306 := W306.nx
    have Z306 := Z305.ext t306
    have NZ306 := Z306.nx
    have Y306 : Sm (fun b => vb (.slice pa p pc) = some b) h306 h306 := .refl
    have hx306 := W305.nx
    have hy306 := t306.nx
    refine L_nwc [(.slice ea306 (L p).length ec306)] (.sl 1 1) rfl rfl kr fun h307 c307 t307 n307 => ?_
    replace c304 := c304.ext t307
    have T307 := T306.ext t307
    have W307 : Sm (fun b => vb (.slice pa p pc) = some b) h305 h307 := W306.ext t307
    have Z307 := Z306.ext t307
    have Y307 : Sm (fun b => vb (.slice pa p pc) = some b) h306 h307 := Y306.ext t307
    have N307 := T307.nx
    have NW307 := W307.nx
    have NZ307 := Z307.nx
    have NY307 := Y307.nx
    obtain ⟨v308, h308, e308, g308, s308, n308⟩ := Gr.append (P := Tryz.prog) (sT := 26) (xT := 26) (el := 28) (by_ := 24) (z := .slice none 0 0) (m := 1) (ds := [(.slice ea306 (L p).length ec306)]) kr kr kr kr kr kr (by decide) (show Gr h307 1 (.slice pa p pc) p ((List.range p).map W) from Gp.ext Z307) (u := .slice (some ⟨h306.next, 0, none⟩) 1 1) (Cl.sd c307 rfl) (fun x hx => by cases List.mem_singleton.1 hx; rfl) (by omega)
    obtain ⟨av308, cv308, rfl⟩ := g308.sd.form
    have q308 : ∀ b, vb (.slice av308 (p + 1) cv308) = some b → h.next < b := fun b hb => (n308 b hb).elim (hpb b) (fun e => by omega)
    refine L_bi (.slice av308 (p + 1) cv308) h308 rfl rfl kr (vs := [.slice pa p pc, .slice (some ⟨h306.next, 0, none⟩) 1 1]) kr (bi_append e308) ?_
    replace c304 := c304.sm s308 (fun hb => by first | (have := hpb _ hb; omega) | (have := Gp.lt hb; omega))
    have T308 : Sm Nix h h308 := T307.trans s308 (fun b hb => .inr (Nat.le_of_lt (hpb b hb)))
    have N308 := T308.nx
    have W308 : Sm (fun b => vb (.slice pa p pc) = some b) h305 h308 := W307.trans s308 (fun b hb => .inl hb)
    have NW308 := W308.nx
    have Y308 : Sm (fun b => vb (.slice pa p pc) = some b) h306 h308 := Y307.trans s308 (fun b hb => .inl hb)
    have NY308 := Y308.nx
    have hr308 : ∀ q, q < p + 1 → Sd h308 6 (ups W p (.slice ea306 (L p).length ec306) q) (L q).length ((L q).flatMap ev6) ∧ ∀ b, vb (ups W p (.slice ea306 (L p).length ec306) q) = some b → vb (.slice av308 (p + 1) cv308) ≠ some b := fun q hq => by
      by_cases e : q = p
      · subst e
        rw [ups_at]
        refine ⟨Gr.sd (Gw306.sm Y308 (fun b hb hx => by have := Gp.lt hx; have := hw306 b hb; omega)), fun b hb hx => ?_⟩
        have h1 := hw306 b hb
        have h2 := Gw306.lt hb
        rcases n308 b hx with h3 | h3
        · have := Gp.lt h3; omega
        · omega
      · rw [ups_ne _ _ e]
        obtain ⟨ha, hb2⟩ := hrow q (by omega)
        refine ⟨ha.sm W308 (fun b hb hx => hb2 b hb hx), fun b hb hx => ?_⟩
        have h2 := ha.lt hb
        rcases n308 b hx with h3 | h3
        · exact hb2 b hb h3
        · omega
    refine L_g 1 kr (L_nil (W_rg 1 kr (L_i ((p : Int)) (1) (nv ((p + 1 : Nat) : Int)) rfl rfl kr kr rfl (inc_ok (by omega)) (L_g 1 kr (L_nil ?_)))))
    exact ⟨N - (p + 1), by omega, p + 1, (ups W p (.slice ea306 (L p).length ec306)), av308, cv308, by omega, (fun q hq => (Nat.lt_succ_iff_lt_or_eq.1 hq).elim (hlen q) (fun e => by rw [e]; omega)), by rw [rng_snoc]; exact g308, q308, hr308, rfl, kr, kr, kr, kr, T308, c304⟩
   ·
    refine W_region (L_g 2 kr ?_)
    obtain ⟨b5, o5, i5, l5⟩ := (I.ext T305).row (T := 22) (el := 27) kr kr kr hlt
    refine L_ix _ rfl rfl kr kr (i5) (L_ld _ rfl rfl kr ((I.ext T305).rowLd (T := 22) (el := 27) kr kr kr hlt i5) (L_ln _ rfl rfl kr ((I.ext T305).lenR (T := 27) (el := 83) kr hlt) (L_i (((L p).length : Int)) (30) (.bool false) rfl rfl kr kr rfl (by simp; omega) (L_g 11 kr ?_))))
    obtain ⟨b5, o5, i5, l5⟩ := (I.ext T305).row (T := 22) (el := 27) kr kr kr hlt
    refine L_want kr (L_ix _ rfl rfl kr kr (i5) (L_want kr (L_ld _ rfl rfl kr ((I.ext T305).rowLd (T := 22) (el := 27) kr kr kr hlt i5) (L_want kr (L_ln _ rfl rfl kr ((I.ext T305).lenR (T := 27) (el := 83) kr hlt) (L_want kr (L_i (((L p).length : Int)) (10010) (.bool false) rfl rfl kr kr rfl (by simp; omega) (L_g 1 kr (L_nil ?_)))))))))
    refine W_cond false kr (fun e => by cases e) (fun _ => ?_)
    refine W_skip (W_region (L_g 3 kr ?_))
    obtain ⟨b5, o5, i5, l5⟩ := (I.ext T305).row (T := 22) (el := 27) kr kr kr hlt
    refine L_ix _ rfl rfl kr kr (i5) (L_ld _ rfl rfl kr ((I.ext T305).rowLd (T := 22) (el := 27) kr kr kr hlt i5) (L_c rfl rfl kr (events_ok ((I.ext T305).r p hlt) (by omega)) ?_))
    rintro v309 h309 ⟨Gw309, t309, hw309⟩
    dsimp only at Gw309 t309 hw309
    obtain ⟨ea309, ec309, rfl⟩ := Gw309.sd.form
    replace c304 := c304.ext t309
    have T309 := T305.ext t309
    have N309 := T309.nx
    have W309 : Sm (fun b => vb (.slice pa p pc) = some b) h305 h309 := W305.ext t309
    have NW309 := W309.nx
    have Z309 := Z305.ext t309
    have NZ309 := Z309.nx
    have Y309 : Sm (fun b => vb (.slice pa p pc) = some b) h309 h309 := .refl
    have hx309 := W305.nx
    have hy309 := t309.nx
    refine L_nwc [(.slice ea309 (L p).length ec309)] (.sl 1 1) rfl rfl kr fun h310 c310 t310 n310 => ?_
    replace c304 := c304.ext t310
    have T310 := T309.ext t310
    have W310 : Sm (fun b => vb (.slice pa p pc) = some b) h305 h310 := W309.ext t310
    have Z310 := Z309.ext t310
    have Y310 : Sm (fun b => vb (.slice pa p pc) = some b) h309 h310 := Y309.ext t310
    have N310 := T310.nx
    have NW310 := W310.nx
    have NZ310 := Z310.nx
    have NY310 := Y310.nx
    obtain ⟨v311, h311, e311, g311, s311, n311⟩ := Gr.append (P := Tryz.prog) (sT := 26) (xT := 26) (el := 28) (by_ := 24) (z := .slice none 0 0) (m := 1) (ds := [(.slice ea309 (L p).length ec309)]) kr kr kr kr kr kr (by decide) (show Gr h310 1 (.slice pa p pc) p ((List.range p).map W) from Gp.ext Z310) (u := .slice (some ⟨h309.next, 0, none⟩) 1 1) (Cl.sd c310 rfl) (fun x hx => by cases List.mem_singleton.1 hx; rfl) (by omega)
    obtain ⟨av311, cv311, rfl⟩ := g311.sd.form
    have q311 : ∀ b, vb (.slice av311 (p + 1) cv311) = some b → h.next < b := fun b hb => (n311 b hb).elim (hpb b) (fun e => by omega)
    refine L_bi (.slice av311 (p + 1) cv311) h311 rfl rfl kr (vs := [.slice pa p pc, .slice (some ⟨h309.next, 0, none⟩) 1 1]) kr (bi_append e311) ?_
    replace c304 := c304.sm s311 (fun hb => by first | (have := hpb _ hb; omega) | (have := Gp.lt hb; omega))
    have T311 : Sm Nix h h311 := T310.trans s311 (fun b hb => .inr (Nat.le_of_lt (hpb b hb)))
    have N311 := T311.nx
    have W311 : Sm (fun b => vb (.slice pa p pc) = some b) h305 h311 := W310.trans s311 (fun b hb => .inl hb)
    have NW311 := W311.nx
    have Y311 : Sm (fun b => vb (.slice pa p pc) = some b) h309 h311 := Y310.trans s311 (fun b hb => .inl hb)
    have NY311 := Y311.nx
    have hr311 : ∀ q, q < p + 1 → Sd h311 6 (ups W p (.slice ea309 (L p).length ec309) q) (L q).length ((L q).flatMap ev6) ∧ ∀ b, vb (ups W p (.slice ea309 (L p).length ec309) q) = some b → vb (.slice av311 (p + 1) cv311) ≠ some b := fun q hq => by
      by_cases e : q = p
      · subst e
        rw [ups_at]
        refine ⟨Gr.sd (Gw309.sm Y311 (fun b hb hx => by have := Gp.lt hx; have := hw309 b hb; omega)), fun b hb hx => ?_⟩
        have h1 := hw309 b hb
        have h2 := Gw309.lt hb
        rcases n311 b hx with h3 | h3
        · have := Gp.lt h3; omega
        · omega
      · rw [ups_ne _ _ e]
        obtain ⟨ha, hb2⟩ := hrow q (by omega)
        refine ⟨ha.sm W311 (fun b hb hx => hb2 b hb hx), fun b hb hx => ?_⟩
        have h2 := ha.lt hb
        rcases n311 b hx with h3 | h3
        · exact hb2 b hb h3
        · omega
    refine L_g 1 kr (L_nil (W_rg 1 kr (L_i ((p : Int)) (1) (nv ((p + 1 : Nat) : Int)) rfl rfl kr kr rfl (inc_ok (by omega)) (L_g 1 kr (L_nil ?_)))))
    exact ⟨N - (p + 1), by omega, p + 1, (ups W p (.slice ea309 (L p).length ec309)), av311, cv311, by omega, (fun q hq => (Nat.lt_succ_iff_lt_or_eq.1 hq).elim (hlen q) (fun e => by rw [e]; omega)), by rw [rng_snoc]; exact g311, q311, hr311, rfl, kr, kr, kr, kr, T311, c304⟩
  ·
   have hge : N = p := by simp at hb; omega
   subst hge
   have hB2 : ∀ q, (L q).length < 1000000000 := fun q => by
    by_cases hq : q < N
    · have := hlen q hq; omega
    · rw [hL0 q (by omega)]; decide
   have hN2 : N < 1000000 := by omega
   have I2 : TIn h305 (fun b => b < h305.next) (VT0 (.slice pa N pc) W) N L := ⟨Gp.sd, fun q hq => (hrow q hq).1, fun b hb => Gp.lt hb, fun q b hq hb => (hrow q hq).1.lt hb⟩
   have Q0 : Sm Nix h305 h305 := .refl
   refine W_exit ?_
   repeat with_reducible refine then_exit ?_
   refine exit_here (W_sg 1 kr (L_ld _ rfl rfl kr (c304.ld (o := 0) kr rfl) (L_g 1 kr (L_ld _ rfl rfl kr (c304.ld (o := 1) kr rfl) (L_g 1 kr (L_ld _ rfl rfl kr (c304.ld (o := 2) kr rfl) (L_g 1 kr (L_ld _ rfl rfl kr (c304.ld (o := 3) kr rfl) (L_g 1 kr ?_)))))))))
   refine L_nwc [nv 0, nv 0, nv 0, nv 0] .ptr rfl rfl kr fun h312 c312 t312 n312 => ?_
   replace c304 := c304.ext t312
   have T312 := T305.ext t312
   have Q312 := Q0.ext t312
   have N312 := T312.nx
   have NQ312 := Q312.nx
   obtain ⟨h313, e313, d313, t313, n313⟩ := c312.sA 30 [nv C.s, nv C.c, nv C.r, nv C.m]
   replace c304 := c304.sn t313
   replace c312 := d313
   have T313 := T312.tr t313
   have Q313 := Q312.tr t313
   have N313 := T313.nx
   have NQ313 := Q313.nx
   refine L_st _ rfl rfl rfl kr kr (e313) (L_nil (W_sg 1 kr (L_ld _ rfl rfl kr (Cl.allN (n := 4) c312 rfl kr) (L_c rfl rfl kr ((profile_ok (C := C) (TIn.mono (I2.ext Q313) (fun b hb _ => Nat.lt_of_lt_of_le hb Q313.nx)) hL0 hB2 hN2).mono pu_of) ?_))))
   rintro v314 h314 ⟨sa1, sc1, pa1, pc1, wa1, wc1, V1, e314, t314, ga1, gb1, gc1, gd1⟩
   dsimp only at e314 t314 ga1 gb1 gc1 gd1
   subst e314
   replace c304 := c304.ext t314
   replace c312 := c312.ext t314
   have T314 := T313.ext t314
   have N314 := T314.nx
   have Q314 := Q313.ext t314
   have NQ314 := Q314.nx
   have A314 : Sm Nix h314 h314 := .refl
   have hz314 := t314.nx
   refine L_g 3 kr (L_nwc [.slice none 0 0, nv 0, .slice none 0 0, .slice none 0 0] .ptr rfl rfl kr fun h315 c315 t315 n315 => ?_)
   replace c304 := c304.ext t315
   replace c312 := c312.ext t315
   have T315 := T314.ext t315
   have Q315 := Q314.ext t315
   have A315 := A314.ext t315
   have N315 := T315.nx
   have NQ315 := Q315.nx
   have NA315 := A315.nx
   obtain ⟨h316, e316, d316, t316, n316⟩ := c315.sA 35 [.slice sa1 (Mn N L C) sc1, nv (En N L C), .slice pa1 (Pn N L C).length pc1, .slice wa1 (Mn N L C) wc1]
   replace c304 := c304.sn t316
   replace c312 := c312.sn t316
   replace c315 := d316
   have T316 := T315.tr t316
   have Q316 := Q315.tr t316
   have A316 := A315.tr t316
   have N316 := T316.nx
   have NQ316 := Q316.nx
   have NA316 := A316.nx
   refine L_st _ rfl rfl rfl kr kr (e316) (L_g 1 kr (L_nil (W_sg 1 kr (L_ld _ rfl rfl kr (Cl.allN (n := 4) c304 rfl kr) (L_c rfl rfl kr ((rprofile_ok (C := C) (TIn.mono (I.ext T316) (fun b hb _ => Nat.lt_of_lt_of_le hb T316.nx)) hL0 hB2 hN2 hcap).mono pu_of) ?_)))))
   rintro v317 h317 ⟨sa2, sc2, pa2, pc2, wa2, wc2, V2, e317, t317, ga2, gb2, gc2, gd2⟩
   dsimp only at e317 t317 ga2 gb2 gc2 gd2
   subst e317
   replace c304 := c304.ext t317
   replace c312 := c312.ext t317
   replace c315 := c315.ext t317
   have T317 := T316.ext t317
   have N317 := T317.nx
   have Q317 := Q316.ext t317
   have NQ317 := Q317.nx
   have A317 := A316.ext t317
   have NA317 := A317.nx
   have B317 : Sm Nix h317 h317 := .refl
   have hz317 := t317.nx
   refine L_g 3 kr (L_nwc [.slice none 0 0, nv 0, .slice none 0 0, .slice none 0 0] .ptr rfl rfl kr fun h318 c318 t318 n318 => ?_)
   replace c304 := c304.ext t318
   replace c312 := c312.ext t318
   replace c315 := c315.ext t318
   have T318 := T317.ext t318
   have Q318 := Q317.ext t318
   have A318 := A317.ext t318
   have B318 := B317.ext t318
   have N318 := T318.nx
   have NQ318 := Q318.nx
   have NA318 := A318.nx
   have NB318 := B318.nx
   obtain ⟨h319, e319, d319, t319, n319⟩ := c318.sA 42 [.slice sa2 (Mn N L C) sc2, nv (En N L C), .slice pa2 (Pn N L C).length pc2, .slice wa2 (Mn N L C) wc2]
   replace c304 := c304.sn t319
   replace c312 := c312.sn t319
   replace c315 := c315.sn t319
   replace c318 := d319
   have T319 := T318.tr t319
   have Q319 := Q318.tr t319
   have A319 := A318.tr t319
   have B319 := B318.tr t319
   have N319 := T319.nx
   have NQ319 := Q319.nx
   have NA319 := A319.nx
   have NB319 := B319.nx
   refine L_st _ rfl rfl rfl kr kr (e319) (L_g 1 kr (L_nil (W_sg 1 kr (L_ld _ rfl rfl kr (Cl.allN (n := 4) c312 rfl kr) (L_c rfl rfl kr ((blame_ok (C := C) (TIn.mono (I2.ext Q319) (fun b hb _ => Nat.lt_of_lt_of_le hb Q319.nx)) hL0 hB2 hN2).mono bu_of) ?_)))))
   rintro v320 h320 ⟨oa3, oc3, e320, t320, go3⟩
   dsimp only at e320 t320 go3
   subst e320
   replace c304 := c304.ext t320
   replace c315 := c315.ext t320
   replace c318 := c318.ext t320
   have T320 := T319.ext t320
   have N320 := T320.nx
   have Q320 := Q319.ext t320
   have NQ320 := Q320.nx
   have A320 := A319.ext t320
   have NA320 := A320.nx
   have B320 := B319.ext t320
   have NB320 := B320.nx
   have D320 : Sm Nix h320 h320 := .refl
   have hz320 := t320.nx
   refine L_g 5 kr (L_nil (W_sg 1 kr (L_ld _ rfl rfl kr (Cl.allN (n := 4) c304 rfl kr) (L_c rfl rfl kr ((rblame_ok (C := C) (TIn.mono (I.ext T320) (fun b hb _ => Nat.lt_of_lt_of_le hb T320.nx)) hL0 hB2 hN2 hcap).mono bu_of) ?_))))
   rintro v321 h321 ⟨oa4, oc4, e321, t321, go4⟩
   dsimp only at e321 t321 go4
   subst e321
   replace c315 := c315.ext t321
   replace c318 := c318.ext t321
   have T321 := T320.ext t321
   have N321 := T321.nx
   have Q321 := Q320.ext t321
   have NQ321 := Q321.nx
   have A321 := A320.ext t321
   have NA321 := A321.nx
   have B321 := B320.ext t321
   have NB321 := B321.nx
   have D321 := D320.ext t321
   have ND321 := D321.nx
   have E321 : Sm Nix h321 h321 := .refl
   have hz321 := t321.nx
   refine L_g 5 kr (L_nil (W_seq (W_seq ?_)))
   have hBl : (Bl N L C).length < 1000000 := by
    unfold Bl
    split
    · rw [blmA_len]; exact hN2
    · decide
   have hMl : Mn N L C ≤ N := by unfold Mn; split <;> omega
   have hPl : (Pn N L C).length < 1000000 := by
    unfold Pn
    split
    · rename_i he
      have G := errT_ok hL0 he
      rw [List.length_reverse]
      cases hla : lastT (timesS N L C) N with
      | none => rw [pathT_none hla]; decide
      | some a => have := (pathT_ok G.d hla).2.1; have := (show Bn N L C from ⟨G.n1, G.len, G.c, G.d.l⟩).tot G.d.g; omega
    · decide
   have hSl : ∀ q, (timesS N L C q).length ≤ 10010 ∨ errT N L C ≠ 0 := fun q => by
    by_cases he : errT N L C = 0
    · have G := errT_ok hL0 he
      have hd := G.d.d q
      left
      rw [hd]
      by_cases hq : q < N
      · exact hlen q hq
      · rw [hL0 q (by omega)]; decide
    · exact .inr he
   ·
    refine W_rg 2 kr (L_i ((errT N L C)) ((errT N L C)) (.bool false) rfl rfl kr kr rfl (by simp) (L_g 3 kr (L_want kr (L_i ((errT N L C)) ((errT N L C)) (.bool false) rfl rfl kr kr rfl (by simp) (L_g 4 kr (L_want kr (L_c rfl rfl kr (same_ok (go3.ext D321) (go4.ext E321) hBl) ?_)))))))
    rintro v322 h322 ⟨e322, t322⟩
    try dsimp only at e322
    try dsimp only at t322
    subst e322
    replace c315 := c315.ext t322
    replace c318 := c318.ext t322
    have T322 := T321.ext t322
    have Q322 := Q321.ext t322
    have A322 := A321.ext t322
    have B322 := B321.ext t322
    have D322 := D321.ext t322
    have E322 := E321.ext t322
    have N322 := T322.nx
    have NQ322 := Q322.nx
    have NA322 := A322.nx
    have NB322 := B322.nx
    have ND322 := D322.nx
    have NE322 := E322.nx
    have M322 := t322.nx
    refine L_g 4 kr (L_want kr (L_ld _ rfl rfl kr (c315.ld (o := 1) kr rfl) (L_g 1 kr (L_want kr (L_ld _ rfl rfl kr (c318.ld (o := 1) kr rfl) (L_want kr (L_i ((En N L C)) ((En N L C)) (.bool false) rfl rfl kr kr rfl (by simp) (L_g 3 kr (L_want kr (L_ld _ rfl rfl kr (c315.ld (o := 2) kr rfl) (L_g 1 kr ?_)))))))))))
    refine L_want kr (L_ld _ rfl rfl kr (c318.ld (o := 2) kr rfl) (L_want kr (L_c rfl rfl kr (steps_ok (gc1.ext A322) (gc2.ext B322) hPl) ?_)))
    rintro v323 h323 ⟨e323, t323⟩
    try dsimp only at e323
    try dsimp only at t323
    subst e323
    replace c315 := c315.ext t323
    replace c318 := c318.ext t323
    have T323 := T322.ext t323
    have Q323 := Q322.ext t323
    have A323 := A322.ext t323
    have B323 := B322.ext t323
    have D323 := D322.ext t323
    have E323 := E322.ext t323
    have N323 := T323.nx
    have NQ323 := Q323.nx
    have NA323 := A323.nx
    have NB323 := B323.nx
    have ND323 := D323.nx
    have NE323 := E323.nx
    have M323 := t323.nx
    refine L_g 4 kr (L_want kr (L_ld _ rfl rfl kr (c315.ld (o := 0) kr rfl) (L_want kr (L_ln _ rfl rfl kr ((ga1.ext A323).len (T := 31) (el := 51) kr) (L_g 1 kr (L_want kr (L_ld _ rfl rfl kr (c318.ld (o := 0) kr rfl) (L_want kr (L_ln _ rfl rfl kr ((ga2.ext B323).len (T := 39) (el := 52) kr) (L_want kr (L_i (((Mn N L C) : Int)) (((Mn N L C) : Int)) (.bool false) rfl rfl kr kr rfl (by simp) ?_)))))))))))
    refine L_g 3 kr (L_want kr (L_ld _ rfl rfl kr (c315.ld (o := 3) kr rfl) (L_want kr (L_ln _ rfl rfl kr ((gd1.ext A323).len (T := 33) (el := 53) kr) (L_g 1 kr (L_want kr (L_ld _ rfl rfl kr (c318.ld (o := 3) kr rfl) (L_want kr (L_ln _ rfl rfl kr ((gd2.ext B323).len (T := 33) (el := 53) kr) (L_want kr (L_i (((Mn N L C) : Int)) (((Mn N L C) : Int)) (.bool false) rfl rfl kr kr rfl (by simp) ?_)))))))))))
    refine L_g 1 kr (L_nil ?_)
    refine W_cond false kr (fun e => by cases e) (fun _ => ?_)
    refine W_skip (W_seq (W_seq (W_region ?_)))
    replace ga1 := ga1.ext A323
    replace gd1 := gd1.ext A323
    replace ga2 := ga2.ext B323
    replace gd2 := gd2.ext B323
    replace gb1 := fun q hq => (gb1 q hq).ext A323
    replace gb2 := fun q hq => (gb2 q hq).ext B323
    refine L_p (nv 0) rfl kr (L_nil (W_block ?_))
    refine W_loop (fun mm fr hh => ∃ (p : Nat), (p ≤ (Mn N L C)) ∧ (Sm Nix h323 hh) ∧ mm = (Mn N L C) - p ∧ fr 8 = ptr h314.next ∧ fr 10 = ptr h317.next ∧ fr 16 = nv (p : Int) ∧ Sm Nix h hh ∧ Cl hh (h314.next) [.slice sa1 (Mn N L C) sc1, nv (En N L C), .slice pa1 (Pn N L C).length pc1, .slice wa1 (Mn N L C) wc1] ∧ Cl hh (h317.next) [.slice sa2 (Mn N L C) sc2, nv (En N L C), .slice pa2 (Pn N L C).length pc2, .slice wa2 (Mn N L C) wc2]) ((Mn N L C)) ?_ ?_
    ·
      exact ⟨0, Nat.zero_le _, .refl, rfl, kr, kr, kr, T323, c315, c318⟩
    rintro mm324 fr324 h324 ⟨p, hp, Vq, hm324, y324_8, y324_10, y324_16, T324, c315, c318⟩
    have N324 := T324.nx
    have B324_t8 := c315.lt
    have B324_t10 := c318.lt
    refine W_set (k := 8) y324_8 (W_set (k := 10) y324_10 (W_set (k := 16) y324_16 ?_))
    have hvq := Vq.nx
    refine W_seq (W_sg 2 kr (L_ld _ rfl rfl kr (c315.ld (o := 0) kr rfl) (L_ln _ rfl rfl kr ((ga1.ext Vq).len (T := 31) (el := 51) kr) (L_g 1 kr (L_nil ?_)))))
    refine W_cond (decide ((p : Int) < ((Mn N L C) : Nat))) kr (fun hb => ?_) (fun hb => ?_)
    ·
      have hlt : p < (Mn N L C) := by simp at hb; omega
      have hSp : (timesS N L C p).length ≤ 10010 := by rcases hSl p with h | h; exact h; exfalso; unfold Mn at hlt; rw [if_neg h] at hlt; omega
      refine W_skip (W_seq (W_block (W_seq (W_seq (W_drawn kr (D_l (l := [0,1,2,3,4,5,6,7,8,9,10,11,12,13,14,15,16,17,18,19,20,21,22,23,24,25]) kr kr Rk_nil (NS_b 1 kr (NS_ld _ rfl rfl kr kr kr (c315.ld (o := 0) kr rfl) (NS_b 1 kr ?_)))))))))
      obtain ⟨b1a, o1a, _, i1a, l1a⟩ := (ga1.ext Vq).at (P := Tryz.prog) (T := 31) (el := 51) (k := 1) kr kr hlt .i64
      refine NS_ix _ rfl rfl kr kr kr kr (i1a) ?_
      refine NS_ld _ rfl rfl kr kr kr (ld_cell kr ((Sd.cellAt (T := 31) (el := 51) (ga1.ext Vq) kr kr hlt i1a (j := 0) (by decide)).trans (by rw [Nat.mul_one, Nat.add_zero, List.getElem?_map, List.getElem?_range hlt]; rfl))) ?_
      refine NS_ln _ rfl rfl kr kr kr (((gb1 p hlt).ext Vq).len (T := 51) (el := 55) kr) (NS_b 1 kr (NS_ld _ rfl rfl kr kr kr (c318.ld (o := 0) kr rfl) (NS_b 1 kr ?_)))
      obtain ⟨b2a, o2a, _, i2a, l2a⟩ := (ga2.ext Vq).at (P := Tryz.prog) (T := 39) (el := 52) (k := 1) kr kr hlt .i64
      refine NS_ix _ rfl rfl kr kr kr kr (i2a) ?_
      refine NS_ld _ rfl rfl kr kr kr (ld_cell kr ((Sd.cellAt (T := 39) (el := 52) (ga2.ext Vq) kr kr hlt i2a (j := 0) (by decide)).trans (by rw [Nat.mul_one, Nat.add_zero, List.getElem?_map, List.getElem?_range hlt]; rfl))) ?_
      refine NS_ln _ rfl rfl kr kr kr (((gb2 p hlt).ext Vq).len (T := 52) (el := 56) kr) (NS_i ((((timesS N L C) p).length : Int)) ((((timesS N L C) p).length : Int)) (.bool false) rfl rfl kr kr kr kr rfl (by simp) (NS_b 2 kr (NS_ld _ rfl rfl kr kr kr (c315.ld (o := 3) kr rfl) (NS_b 1 kr ?_))))
      obtain ⟨b1w, o1w, _, i1w, l1w⟩ := (gd1.ext Vq).at (P := Tryz.prog) (T := 33) (el := 53) (k := 2) kr kr hlt .i64
      refine NS_ix _ rfl rfl kr kr kr kr (i1w) ?_
      refine NS_ld _ rfl rfl kr kr kr (ld_l (l := w2 (waitsT ((timesS N L C) p))) kr (fun j hj => (Sd.cellAt (T := 33) (el := 53) (gd1.ext Vq) kr kr hlt i1w hj).trans (flat_at w2 w2_len (by rw [List.getElem?_map, List.getElem?_range hlt]; rfl) hj))) ?_
      refine NS_b 1 kr (NS_ld _ rfl rfl kr kr kr (c318.ld (o := 3) kr rfl) (NS_b 1 kr ?_))
      obtain ⟨b2w, o2w, _, i2w, l2w⟩ := (gd2.ext Vq).at (P := Tryz.prog) (T := 33) (el := 53) (k := 2) kr kr hlt .i64
      refine NS_ix _ rfl rfl kr kr kr kr (i2w) ?_
      refine NS_ld _ rfl rfl kr kr kr (ld_l (l := w2 (waitsT ((timesS N L C) p))) kr (fun j hj => (Sd.cellAt (T := 33) (el := 53) (gd2.ext Vq) kr kr hlt i2w hj).trans (flat_at w2 w2_len (by rw [List.getElem?_map, List.getElem?_range hlt]; rfl) hj))) ?_
      refine NS_v (.bool false) rfl kr rfl kr (ev_bin (o := _) rfl kr kr (neq_pair (waitsT ((timesS N L C) p)) _ _ _)) (NS_b 1 kr (NS_nil ?_))
      refine W_cond false kr (fun e => by cases e) (fun _ => ?_)
      refine W_skip (W_sg 1 kr (L_nil (W_block ?_)))
      refine W_loop (fun mm fr hh => ∃ (i : Nat), (i ≤ ((timesS N L C) p).length) ∧ (Sm Nix h323 hh) ∧ mm = ((timesS N L C) p).length - i ∧ fr 8 = ptr h314.next ∧ fr 10 = ptr h317.next ∧ fr 16 = nv (p : Int) ∧ fr 17 = nv (i : Int) ∧ Sm Nix h hh ∧ Cl hh (h314.next) [.slice sa1 (Mn N L C) sc1, nv (En N L C), .slice pa1 (Pn N L C).length pc1, .slice wa1 (Mn N L C) wc1] ∧ Cl hh (h317.next) [.slice sa2 (Mn N L C) sc2, nv (En N L C), .slice pa2 (Pn N L C).length pc2, .slice wa2 (Mn N L C) wc2]) (((timesS N L C) p).length) ?_ ?_
      ·
        exact ⟨0, Nat.zero_le _, Vq, rfl, kr, kr, kr, kr, T324, c315, c318⟩
      rintro mm325 fr325 h325 ⟨i, hi, Vi, hm325, y325_8, y325_10, y325_16, y325_17, T325, c315, c318⟩
      have N325 := T325.nx
      have B325_t8 := c315.lt
      have B325_t10 := c318.lt
      refine W_set (k := 8) y325_8 (W_set (k := 10) y325_10 (W_set (k := 16) y325_16 (W_set (k := 17) y325_17 ?_)))
      have hvi := Vi.nx
      refine W_seq (W_sg 2 kr (L_ld _ rfl rfl kr (c315.ld (o := 0) kr rfl) (L_g 1 kr ?_)))
      obtain ⟨b1a, o1a, _, i1a, l1a⟩ := (ga1.ext Vi).at (P := Tryz.prog) (T := 31) (el := 51) (k := 1) kr kr hlt .i64
      refine L_ix _ rfl rfl kr kr (i1a) ?_
      refine L_ld _ rfl rfl kr (ld_cell kr ((Sd.cellAt (T := 31) (el := 51) (ga1.ext Vi) kr kr hlt i1a (j := 0) (by decide)).trans (by rw [Nat.mul_one, Nat.add_zero, List.getElem?_map, List.getElem?_range hlt]; rfl))) ?_
      refine L_ln _ rfl rfl kr (((gb1 p hlt).ext Vi).len (T := 51) (el := 55) kr) (L_g 1 kr (L_nil ?_))
      refine W_cond (decide ((i : Int) < (((timesS N L C) p).length : Nat))) kr (fun hb => ?_) (fun hb => ?_)
      ·
        have hlt2 : i < ((timesS N L C) p).length := by simp at hb; omega
        obtain ⟨s, hs⟩ : ∃ s, ((timesS N L C) p)[i]? = some s := ⟨_, List.getElem?_eq_getElem hlt2⟩
        refine W_skip (W_seq (W_block (W_seq (W_drawn kr (D_e (e := 18) (l := [0,1,2,3,4,5,6,7,8,9,10,11,12,13,14,15,16,17]) (s' := [8,9,10,11,12,13,14,15]) kr kr rfl kr Rk_nil (NS_b 1 kr (NS_ld _ rfl rfl kr kr kr (c315.ld (o := 0) kr rfl) (NS_b 1 kr ?_))))))))
        obtain ⟨b1a, o1a, _, i1a, l1a⟩ := (ga1.ext Vi).at (P := Tryz.prog) (T := 31) (el := 51) (k := 1) kr kr hlt .i64
        refine NS_ix _ rfl rfl kr kr kr kr (i1a) ?_
        refine NS_ld _ rfl rfl kr kr kr (ld_cell kr ((Sd.cellAt (T := 31) (el := 51) (ga1.ext Vi) kr kr hlt i1a (j := 0) (by decide)).trans (by rw [Nat.mul_one, Nat.add_zero, List.getElem?_map, List.getElem?_range hlt]; rfl))) ?_
        refine NS_b 1 kr ?_
        obtain ⟨b1s, o1s, _, i1s, l1s⟩ := ((gb1 p hlt).ext Vi).at (P := Tryz.prog) (T := 51) (el := 55) (k := 4) kr kr hlt2 .i64
        refine NS_ix _ rfl rfl kr kr kr kr (i1s) (NS_ld _ rfl rfl kr kr kr (ld_l (l := sp4 s) kr (fun j hj => (Sd.cellAt (T := 51) (el := 55) ((gb1 p hlt).ext Vi) kr kr hlt2 i1s hj).trans (flat_at sp4 sp4_len hs hj))) (NS_b 1 kr (NS_ld _ rfl rfl kr kr kr (c318.ld (o := 0) kr rfl) (NS_b 1 kr ?_))))
        obtain ⟨b2a, o2a, _, i2a, l2a⟩ := (ga2.ext Vi).at (P := Tryz.prog) (T := 39) (el := 52) (k := 1) kr kr hlt .i64
        refine NS_ix _ rfl rfl kr kr kr kr (i2a) ?_
        refine NS_ld _ rfl rfl kr kr kr (ld_cell kr ((Sd.cellAt (T := 39) (el := 52) (ga2.ext Vi) kr kr hlt i2a (j := 0) (by decide)).trans (by rw [Nat.mul_one, Nat.add_zero, List.getElem?_map, List.getElem?_range hlt]; rfl))) ?_
        refine NS_b 1 kr ?_
        obtain ⟨b2s, o2s, _, i2s, l2s⟩ := ((gb2 p hlt).ext Vi).at (P := Tryz.prog) (T := 52) (el := 56) (k := 4) kr kr hlt2 .i64
        refine NS_ix _ rfl rfl kr kr kr kr (i2s) (NS_ld _ rfl rfl kr kr kr (ld_l (l := sp4 s) kr (fun j hj => (Sd.cellAt (T := 52) (el := 56) ((gb2 p hlt).ext Vi) kr kr hlt2 i2s hj).trans (flat_at sp4 sp4_len hs hj))) ?_)
        refine NS_nwc [nv 0, nv 0, nv 0, nv 0] .ptr rfl kr rfl rfl kr (Rk_1 rfl rfl (Rk_ld _ rfl rfl rfl kr ((c315.ext (.push h325 _)).ld (o := 0) kr rfl) kr (Rk_1 rfl rfl (Rk_1 rfl rfl (Rk_ld _ rfl rfl rfl kr (ld_cell kr ((Sd.cellAt (T := 31) (el := 51) (ga1.ext (Vi.ext (.push h325 _))) kr kr hlt i1a (j := 0) (by decide)).trans (by rw [Nat.mul_one, Nat.add_zero, List.getElem?_map, List.getElem?_range hlt]; rfl))) kr (Rk_1 rfl rfl (Rk_1 rfl rfl (Rk_ld _ rfl rfl rfl kr (ld_l (l := sp4 s) kr (fun j hj => (Sd.cellAt (T := 51) (el := 55) ((gb1 p hlt).ext (Vi.ext (.push h325 _))) kr kr hlt2 i1s hj).trans (flat_at sp4 sp4_len hs hj))) kr (Rk_1 rfl rfl (Rk_ld _ rfl rfl rfl kr ((c318.ext (.push h325 _)).ld (o := 0) kr rfl) kr (Rk_1 rfl rfl (Rk_1 rfl rfl (Rk_ld _ rfl rfl rfl kr (ld_cell kr ((Sd.cellAt (T := 39) (el := 52) (ga2.ext (Vi.ext (.push h325 _))) kr kr hlt i2a (j := 0) (by decide)).trans (by rw [Nat.mul_one, Nat.add_zero, List.getElem?_map, List.getElem?_range hlt]; rfl))) kr (Rk_1 rfl rfl (Rk_1 rfl rfl (Rk_ld _ rfl rfl rfl kr (ld_l (l := sp4 s) kr (fun j hj => (Sd.cellAt (T := 52) (el := 56) ((gb2 p hlt).ext (Vi.ext (.push h325 _))) kr kr hlt2 i2s hj).trans (flat_at sp4 sp4_len hs hj))) kr (Rk_1 rfl rfl Rk_nil))))))))))))))))) fun h326 c326 t326 n326 => ?_
        replace c315 := c315.ext t326
        replace c318 := c318.ext t326
        have T326 := T325.ext t326
        have Q2326 := Vi.ext t326
        have N326 := T326.nx
        have NQ2326 := Q2326.nx
        refine NS_nwc [nv 0, nv 0, nv 0, nv 0] .ptr rfl kr rfl rfl kr (Rk_1 rfl rfl (Rk_ld _ rfl rfl rfl kr ((c315.ext (.push h326 _)).ld (o := 0) kr rfl) kr (Rk_1 rfl rfl (Rk_1 rfl rfl (Rk_ld _ rfl rfl rfl kr (ld_cell kr ((Sd.cellAt (T := 31) (el := 51) (ga1.ext (Q2326.ext (.push h326 _))) kr kr hlt i1a (j := 0) (by decide)).trans (by rw [Nat.mul_one, Nat.add_zero, List.getElem?_map, List.getElem?_range hlt]; rfl))) kr (Rk_1 rfl rfl (Rk_1 rfl rfl (Rk_ld _ rfl rfl rfl kr (ld_l (l := sp4 s) kr (fun j hj => (Sd.cellAt (T := 51) (el := 55) ((gb1 p hlt).ext (Q2326.ext (.push h326 _))) kr kr hlt2 i1s hj).trans (flat_at sp4 sp4_len hs hj))) kr (Rk_1 rfl rfl (Rk_ld _ rfl rfl rfl kr ((c318.ext (.push h326 _)).ld (o := 0) kr rfl) kr (Rk_1 rfl rfl (Rk_1 rfl rfl (Rk_ld _ rfl rfl rfl kr (ld_cell kr ((Sd.cellAt (T := 39) (el := 52) (ga2.ext (Q2326.ext (.push h326 _))) kr kr hlt i2a (j := 0) (by decide)).trans (by rw [Nat.mul_one, Nat.add_zero, List.getElem?_map, List.getElem?_range hlt]; rfl))) kr (Rk_1 rfl rfl (Rk_1 rfl rfl (Rk_ld _ rfl rfl rfl kr (ld_l (l := sp4 s) kr (fun j hj => (Sd.cellAt (T := 52) (el := 56) ((gb2 p hlt).ext (Q2326.ext (.push h326 _))) kr kr hlt2 i2s hj).trans (flat_at sp4 sp4_len hs hj))) kr (Rk_1 rfl rfl (Rk_1 rfl rfl Rk_nil)))))))))))))))))) fun h327 c327 t327 n327 => ?_
        replace c315 := c315.ext t327
        replace c318 := c318.ext t327
        replace c326 := c326.ext t327
        have T327 := T326.ext t327
        have Q2327 := Q2326.ext t327
        have N327 := T327.nx
        have NQ2327 := Q2327.nx
        refine NS_nil ?_
        obtain ⟨h328, e328, d328, t328, n328⟩ := Cl.storeN (P := Tryz.prog) (T := 55) (n := 4) (v := .agg ⟨(sp4 s)⟩) (cs := (sp4 s)) c326 rfl kr rfl (by first | exact sp4_len _) (List.all_eq_true.1 rfl)
        replace c315 := c315.sn t328
        replace c318 := c318.sn t328
        replace c327 := c327.sn t328
        replace c326 := d328
        have T328 := T327.tr t328
        have Q2328 := Q2327.tr t328
        have N328 := T328.nx
        have NQ2328 := Q2328.nx
        refine L_st _ rfl rfl rfl kr kr (e328) ?_
        refine L_nil ⟨rfl, ?_⟩
        refine D_e (e := 19) (l := []) (s' := []) kr kr rfl kr (Rk_1 rfl rfl (Rk_ld _ rfl rfl rfl kr (c318.ld (o := 0) kr rfl) kr (Rk_1 rfl rfl (Rk_1 rfl rfl (Rk_ld _ rfl rfl rfl kr (ld_cell kr ((Sd.cellAt (T := 39) (el := 52) (ga2.ext Q2328) kr kr hlt i2a (j := 0) (by decide)).trans (by rw [Nat.mul_one, Nat.add_zero, List.getElem?_map, List.getElem?_range hlt]; rfl))) kr (Rk_1 rfl rfl (Rk_1 rfl rfl (Rk_ld _ rfl rfl rfl kr (ld_l (l := sp4 s) kr (fun j hj => (Sd.cellAt (T := 52) (el := 56) ((gb2 p hlt).ext Q2328) kr kr hlt2 i2s hj).trans (flat_at sp4 sp4_len hs hj))) kr Rk_nil)))))))) ?_
        refine NS_nil ?_
        obtain ⟨h329, e329, d329, t329, n329⟩ := Cl.storeN (P := Tryz.prog) (T := 56) (n := 4) (v := .agg ⟨(sp4 s)⟩) (cs := (sp4 s)) c327 rfl kr rfl (by first | exact sp4_len _) (List.all_eq_true.1 rfl)
        replace c315 := c315.sn t329
        replace c318 := c318.sn t329
        replace c326 := c326.sn t329
        replace c327 := d329
        have T329 := T328.tr t329
        have Q2329 := Q2328.tr t329
        have N329 := T329.nx
        have NQ2329 := Q2329.nx
        refine L_st _ rfl rfl rfl kr kr (e329) ?_
        refine L_nil ⟨rfl, ?_⟩
        refine D_l (l := []) kr kr Rk_nil (NS_nil (W_sg 1 kr (L_ld _ rfl rfl kr (c326.ld (o := 0) kr rfl) (L_g 1 kr (L_ld _ rfl rfl kr (c327.ld (o := 0) kr rfl) (L_i (s.b) (s.b) (.bool false) rfl rfl kr kr rfl (by simp) (L_g 2 kr (L_want kr (L_ld _ rfl rfl kr (c326.ld (o := 1) kr rfl) ?_)))))))))
        refine L_g 1 kr (L_want kr (L_ld _ rfl rfl kr (c327.ld (o := 1) kr rfl) (L_want kr (L_i (s.e) (s.e) (.bool false) rfl rfl kr kr rfl (by simp) (L_g 3 kr (L_want kr (L_ld _ rfl rfl kr (c326.ld (o := 2) kr rfl) (L_g 1 kr (L_want kr (L_ld _ rfl rfl kr (c327.ld (o := 2) kr rfl) (L_want kr ?_)))))))))))
        refine L_i (s.w) (s.w) (.bool false) rfl rfl kr kr rfl (by simp) (L_g 3 kr (L_want kr (L_ld _ rfl rfl kr (c326.ld (o := 3) kr rfl) (L_g 1 kr (L_want kr (L_ld _ rfl rfl kr (c327.ld (o := 3) kr rfl) (L_want kr (L_i (s.y) (s.y) (.bool false) rfl rfl kr kr rfl (by simp) (L_g 1 kr (L_nil ?_))))))))))
        refine W_cond false kr (fun e => by cases e) (fun _ => ?_)
        refine W_skip (W_rg 1 kr (L_i ((i : Int)) (1) (nv ((i + 1 : Nat) : Int)) rfl rfl kr kr rfl (inc_ok (by omega)) (L_g 1 kr (L_nil ?_))))
        exact ⟨((timesS N L C) p).length - (i + 1), by omega, i + 1, by omega, Q2329, rfl, kr, kr, kr, kr, T329, c315, c318⟩
      ·
        refine W_exit ?_
        repeat with_reducible refine then_exit ?_
        refine exit_here (W_rg 1 kr (L_i ((p : Int)) (1) (nv ((p + 1 : Nat) : Int)) rfl rfl kr kr rfl (inc_ok (by omega)) (L_g 1 kr (L_nil ?_))))
        exact ⟨(Mn N L C) - (p + 1), by omega, p + 1, by omega, Vi, rfl, kr, kr, kr, T325, c315, c318⟩
    ·
      refine W_exit ?_
      repeat with_reducible refine then_exit ?_
      refine exit_here (W_seq (W_region (L_c rfl rfl kr (works_ok) ?_)))
      rintro v12 h12 e12
      cases e12
      refine L_g 1 kr (L_nil (W_ret ?_))
      repeat first | with_reducible refine then_ret ?_ | with_reducible refine blk_ret ?_
      refine done_of (v := .bool true) (.inl rfl) kr ?_
      rfl
 ·
  refine W_rg 1 kr (L_ln _ rfl rfl kr ((I.ext T304).len (T := 22) (el := 27) kr) (L_i ((N : Int)) (6) (.bool true) rfl rfl kr kr rfl (by simp; omega) (L_g 2 kr (L_want kr (L_ln _ rfl rfl kr ((I.ext T304).len (T := 22) (el := 27) kr) (L_want kr (L_i ((N : Int)) (64) (.bool false) rfl rfl kr kr rfl (by simp; omega) (L_g 3 kr (L_want kr (L_ln _ rfl rfl kr ((I.ext T304).len (T := 22) (el := 27) kr) ?_))))))))))
  refine L_want kr (L_i ((N : Int)) (80) (.bool true) rfl rfl kr kr rfl (by simp; omega) (L_g 1 kr (L_nil ?_)))
  refine W_cond true kr (fun _ => ?_) (fun e => by cases e)
  refine W_seq (W_region (L_c rfl rfl kr (works_ok) ?_))
  rintro v12 h12 e12
  cases e12
  refine L_g 1 kr (L_nil (W_ret ?_))
  repeat first | with_reducible refine then_ret ?_ | with_reducible refine blk_ret ?_
  refine done_of (v := .bool true) (.inl rfl) kr ?_
  rfl
 ·
  refine W_rg 1 kr (L_ln _ rfl rfl kr ((I.ext T304).len (T := 22) (el := 27) kr) (L_i ((N : Int)) (6) (.bool false) rfl rfl kr kr rfl (by simp; omega) (L_g 7 kr (L_want kr (L_ln _ rfl rfl kr ((I.ext T304).len (T := 22) (el := 27) kr) (L_want kr (L_i ((N : Int)) (80) (.bool false) rfl rfl kr kr rfl (by simp; omega) (L_g 1 kr (L_nil ?_)))))))))
  refine W_cond false kr (fun e => by cases e) (fun _ => ?_)
  refine W_skip (W_sg 1 kr (L_nil (W_seq (W_sg 1 kr (L_nil (W_block ?_))))))
  refine W_loop (fun mm fr hh => ∃ (p : Nat) (W : Nat → Value) (pa : Option Addr) (pc : Nat), (p ≤ N) ∧ (∀ q, q < p → (L q).length ≤ 10010) ∧ (Gr hh 1 (.slice pa p pc) p ((List.range p).map W)) ∧ (∀ b, vb (.slice pa p pc) = some b → h.next < b) ∧ (∀ q, q < p → Sd hh 6 (W q) (L q).length ((L q).flatMap ev6) ∧ ∀ b, vb (W q) = some b → vb (.slice pa p pc) ≠ some b) ∧ mm = N - p ∧ fr 0 = VA none ∧ fr 3 = ptr h.next ∧ fr 5 = .slice pa p pc ∧ fr 6 = nv (p : Int) ∧ Sm Nix h hh ∧ Cl hh (h.next) [nv C.s, nv C.c, nv C.r, nv C.m]) (N) ?_ ?_
  ·
   exact ⟨0, (fun _ => nilS), none, 0, Nat.zero_le _, (fun q hq => by omega), Gr.nil, (fun b hb => by cases hb), (fun q hq => by omega), rfl, kr, kr, kr, kr, T304, c304⟩
  rintro mm330 fr330 h330 ⟨p, W, pa, pc, hp, hlen, Gp, hpb, hrow, hm330, y330_0, y330_3, y330_5, y330_6, T330, c304⟩
  have N330 := T330.nx
  have B330_t3 := c304.lt
  refine W_set (k := 0) y330_0 (W_set (k := 3) y330_3 (W_set (k := 5) y330_5 (W_set (k := 6) y330_6 ?_)))
  have W330 : Sm (fun b => vb (.slice pa p pc) = some b) h330 h330 := .refl
  have Z330 : Sm Nix h330 h330 := .refl
  refine W_seq (W_sg 2 kr (L_ln _ rfl rfl kr ((I.ext T330).len (T := 22) (el := 27) kr) (L_g 1 kr (L_nil ?_))))
  refine W_cond (decide ((p : Int) < (N : Nat))) kr (fun hb => ?_) (fun hb => ?_)
  ·
   have hlt : p < N := by simp at hb; omega
   refine W_skip (W_seq (W_block (W_seq (W_seq ?_))))
   have h3 : (30 < (L p).length ∧ (L p).length ≤ 10000) ∨ (30 < (L p).length ∧ 10000 < (L p).length ∧ 10010 < (L p).length) ∨ (30 < (L p).length ∧ 10000 < (L p).length ∧ ¬ 10010 < (L p).length) ∨ (¬ 30 < (L p).length ∧ ¬ 10010 < (L p).length) := by omega
   rcases h3 with ⟨r1, r2⟩ | ⟨r1, r2, r3⟩ | ⟨r1, r2, r3⟩ | ⟨r1, r3⟩
   ·
    refine W_region (L_g 2 kr ?_)
    obtain ⟨b5, o5, i5, l5⟩ := (I.ext T330).row (T := 22) (el := 27) kr kr kr hlt
    refine L_ix _ rfl rfl kr kr (i5) (L_ld _ rfl rfl kr ((I.ext T330).rowLd (T := 22) (el := 27) kr kr kr hlt i5) (L_ln _ rfl rfl kr ((I.ext T330).lenR (T := 27) (el := 83) kr hlt) (L_i (((L p).length : Int)) (30) (.bool true) rfl rfl kr kr rfl (by simp; omega) (L_g 3 kr ?_))))
    obtain ⟨b5, o5, i5, l5⟩ := (I.ext T330).row (T := 22) (el := 27) kr kr kr hlt
    refine L_want kr (L_ix _ rfl rfl kr kr (i5) (L_want kr (L_ld _ rfl rfl kr ((I.ext T330).rowLd (T := 22) (el := 27) kr kr kr hlt i5) (L_want kr (L_ln _ rfl rfl kr ((I.ext T330).lenR (T := 27) (el := 83) kr hlt) (L_want kr (L_i (((L p).length : Int)) (10000) (.bool true) rfl rfl kr kr rfl (by simp; omega) (L_g 9 kr (L_nil ?_)))))))))
    refine W_cond true kr (fun _ => ?_) (fun e => by cases e)
    refine W_seq (W_region (L_c rfl rfl kr (works_ok) ?_))
    rintro v12 h12 e12
    cases e12
    refine L_g 1 kr (L_nil (W_ret ?_))
    repeat first | with_reducible refine then_ret ?_ | with_reducible refine blk_ret ?_
    refine done_of (v := .bool true) (.inl rfl) kr ?_
    rfl
   ·
    refine W_region (L_g 2 kr ?_)
    obtain ⟨b5, o5, i5, l5⟩ := (I.ext T330).row (T := 22) (el := 27) kr kr kr hlt
    refine L_ix _ rfl rfl kr kr (i5) (L_ld _ rfl rfl kr ((I.ext T330).rowLd (T := 22) (el := 27) kr kr kr hlt i5) (L_ln _ rfl rfl kr ((I.ext T330).lenR (T := 27) (el := 83) kr hlt) (L_i (((L p).length : Int)) (30) (.bool true) rfl rfl kr kr rfl (by simp; omega) (L_g 3 kr ?_))))
    obtain ⟨b5, o5, i5, l5⟩ := (I.ext T330).row (T := 22) (el := 27) kr kr kr hlt
    refine L_want kr (L_ix _ rfl rfl kr kr (i5) (L_want kr (L_ld _ rfl rfl kr ((I.ext T330).rowLd (T := 22) (el := 27) kr kr kr hlt i5) (L_want kr (L_ln _ rfl rfl kr ((I.ext T330).lenR (T := 27) (el := 83) kr hlt) (L_want kr (L_i (((L p).length : Int)) (10000) (.bool false) rfl rfl kr kr rfl (by simp; omega) (L_g 4 kr ?_))))))))
    obtain ⟨b5, o5, i5, l5⟩ := (I.ext T330).row (T := 22) (el := 27) kr kr kr hlt
    refine L_want kr (L_ix _ rfl rfl kr kr (i5) (L_want kr (L_ld _ rfl rfl kr ((I.ext T330).rowLd (T := 22) (el := 27) kr kr kr hlt i5) (L_want kr (L_ln _ rfl rfl kr ((I.ext T330).lenR (T := 27) (el := 83) kr hlt) (L_want kr (L_i (((L p).length : Int)) (10010) (.bool true) rfl rfl kr kr rfl (by simp; omega) (L_g 1 kr (L_nil ?_)))))))))
    refine W_cond true kr (fun _ => ?_) (fun e => by cases e)
    refine W_seq (W_region (L_c rfl rfl kr (works_ok) ?_))
    rintro v12 h12 e12
    cases e12
    refine L_g 1 kr (L_nil (W_ret ?_))
    repeat first | with_reducible refine then_ret ?_ | with_reducible refine blk_ret ?_
    refine done_of (v := .bool true) (.inl rfl) kr ?_
    rfl
   ·
    refine W_region (L_g 2 kr ?_)
    obtain ⟨b5, o5, i5, l5⟩ := (I.ext T330).row (T := 22) (el := 27) kr kr kr hlt
    refine L_ix _ rfl rfl kr kr (i5) (L_ld _ rfl rfl kr ((I.ext T330).rowLd (T := 22) (el := 27) kr kr kr hlt i5) (L_ln _ rfl rfl kr ((I.ext T330).lenR (T := 27) (el := 83) kr hlt) (L_i (((L p).length : Int)) (30) (.bool true) rfl rfl kr kr rfl (by simp; omega) (L_g 3 kr ?_))))
    obtain ⟨b5, o5, i5, l5⟩ := (I.ext T330).row (T := 22) (el := 27) kr kr kr hlt
    refine L_want kr (L_ix _ rfl rfl kr kr (i5) (L_want kr (L_ld _ rfl rfl kr ((I.ext T330).rowLd (T := 22) (el := 27) kr kr kr hlt i5) (L_want kr (L_ln _ rfl rfl kr ((I.ext T330).lenR (T := 27) (el := 83) kr hlt) (L_want kr (L_i (((L p).length : Int)) (10000) (.bool false) rfl rfl kr kr rfl (by simp; omega) (L_g 4 kr ?_))))))))
    obtain ⟨b5, o5, i5, l5⟩ := (I.ext T330).row (T := 22) (el := 27) kr kr kr hlt
    refine L_want kr (L_ix _ rfl rfl kr kr (i5) (L_want kr (L_ld _ rfl rfl kr ((I.ext T330).rowLd (T := 22) (el := 27) kr kr kr hlt i5) (L_want kr (L_ln _ rfl rfl kr ((I.ext T330).lenR (T := 27) (el := 83) kr hlt) (L_want kr (L_i (((L p).length : Int)) (10010) (.bool false) rfl rfl kr kr rfl (by simp; omega) (L_g 1 kr (L_nil ?_)))))))))
    refine W_cond false kr (fun e => by cases e) (fun _ => ?_)
    refine W_skip (W_region (L_g 3 kr ?_))
    obtain ⟨b5, o5, i5, l5⟩ := (I.ext T330).row (T := 22) (el := 27) kr kr kr hlt
    refine L_ix _ rfl rfl kr kr (i5) (L_ld _ rfl rfl kr ((I.ext T330).rowLd (T := 22) (el := 27) kr kr kr hlt i5) (L_c rfl rfl kr (events_ok ((I.ext T330).r p hlt) (by omega)) ?_))
    rintro v331 h331 ⟨Gw331, t331, hw331⟩
    dsimp only at Gw331 t331 hw331
    obtain ⟨ea331, ec331, rfl⟩ := Gw331.sd.form
    replace c304 := c304.ext t331
    have T331 := T330.ext t331
    have N331 := T331.nx
    have W331 : Sm (fun b => vb (.slice pa p pc) = some b) h330 h331 := W330.ext t331
    have NW331 := W331.nx
    have Z331 := Z330.ext t331
    have NZ331 := Z331.nx
    have Y331 : Sm (fun b => vb (.slice pa p pc) = some b) h331 h331 := .refl
    have hx331 := W330.nx
    have hy331 := t331.nx
    refine L_nwc [(.slice ea331 (L p).length ec331)] (.sl 1 1) rfl rfl kr fun h332 c332 t332 n332 => ?_
    replace c304 := c304.ext t332
    have T332 := T331.ext t332
    have W332 : Sm (fun b => vb (.slice pa p pc) = some b) h330 h332 := W331.ext t332
    have Z332 := Z331.ext t332
    have Y332 : Sm (fun b => vb (.slice pa p pc) = some b) h331 h332 := Y331.ext t332
    have N332 := T332.nx
    have NW332 := W332.nx
    have NZ332 := Z332.nx
    have NY332 := Y332.nx
    obtain ⟨v333, h333, e333, g333, s333, n333⟩ := Gr.append (P := Tryz.prog) (sT := 26) (xT := 26) (el := 28) (by_ := 24) (z := .slice none 0 0) (m := 1) (ds := [(.slice ea331 (L p).length ec331)]) kr kr kr kr kr kr (by decide) (show Gr h332 1 (.slice pa p pc) p ((List.range p).map W) from Gp.ext Z332) (u := .slice (some ⟨h331.next, 0, none⟩) 1 1) (Cl.sd c332 rfl) (fun x hx => by cases List.mem_singleton.1 hx; rfl) (by omega)
    obtain ⟨av333, cv333, rfl⟩ := g333.sd.form
    have q333 : ∀ b, vb (.slice av333 (p + 1) cv333) = some b → h.next < b := fun b hb => (n333 b hb).elim (hpb b) (fun e => by omega)
    refine L_bi (.slice av333 (p + 1) cv333) h333 rfl rfl kr (vs := [.slice pa p pc, .slice (some ⟨h331.next, 0, none⟩) 1 1]) kr (bi_append e333) ?_
    replace c304 := c304.sm s333 (fun hb => by first | (have := hpb _ hb; omega) | (have := Gp.lt hb; omega))
    have T333 : Sm Nix h h333 := T332.trans s333 (fun b hb => .inr (Nat.le_of_lt (hpb b hb)))
    have N333 := T333.nx
    have W333 : Sm (fun b => vb (.slice pa p pc) = some b) h330 h333 := W332.trans s333 (fun b hb => .inl hb)
    have NW333 := W333.nx
    have Y333 : Sm (fun b => vb (.slice pa p pc) = some b) h331 h333 := Y332.trans s333 (fun b hb => .inl hb)
    have NY333 := Y333.nx
    have hr333 : ∀ q, q < p + 1 → Sd h333 6 (ups W p (.slice ea331 (L p).length ec331) q) (L q).length ((L q).flatMap ev6) ∧ ∀ b, vb (ups W p (.slice ea331 (L p).length ec331) q) = some b → vb (.slice av333 (p + 1) cv333) ≠ some b := fun q hq => by
      by_cases e : q = p
      · subst e
        rw [ups_at]
        refine ⟨Gr.sd (Gw331.sm Y333 (fun b hb hx => by have := Gp.lt hx; have := hw331 b hb; omega)), fun b hb hx => ?_⟩
        have h1 := hw331 b hb
        have h2 := Gw331.lt hb
        rcases n333 b hx with h3 | h3
        · have := Gp.lt h3; omega
        · omega
      · rw [ups_ne _ _ e]
        obtain ⟨ha, hb2⟩ := hrow q (by omega)
        refine ⟨ha.sm W333 (fun b hb hx => hb2 b hb hx), fun b hb hx => ?_⟩
        have h2 := ha.lt hb
        rcases n333 b hx with h3 | h3
        · exact hb2 b hb h3
        · omega
    refine L_g 1 kr (L_nil (W_rg 1 kr (L_i ((p : Int)) (1) (nv ((p + 1 : Nat) : Int)) rfl rfl kr kr rfl (inc_ok (by omega)) (L_g 1 kr (L_nil ?_)))))
    exact ⟨N - (p + 1), by omega, p + 1, (ups W p (.slice ea331 (L p).length ec331)), av333, cv333, by omega, (fun q hq => (Nat.lt_succ_iff_lt_or_eq.1 hq).elim (hlen q) (fun e => by rw [e]; omega)), by rw [rng_snoc]; exact g333, q333, hr333, rfl, kr, kr, kr, kr, T333, c304⟩
   ·
    refine W_region (L_g 2 kr ?_)
    obtain ⟨b5, o5, i5, l5⟩ := (I.ext T330).row (T := 22) (el := 27) kr kr kr hlt
    refine L_ix _ rfl rfl kr kr (i5) (L_ld _ rfl rfl kr ((I.ext T330).rowLd (T := 22) (el := 27) kr kr kr hlt i5) (L_ln _ rfl rfl kr ((I.ext T330).lenR (T := 27) (el := 83) kr hlt) (L_i (((L p).length : Int)) (30) (.bool false) rfl rfl kr kr rfl (by simp; omega) (L_g 11 kr ?_))))
    obtain ⟨b5, o5, i5, l5⟩ := (I.ext T330).row (T := 22) (el := 27) kr kr kr hlt
    refine L_want kr (L_ix _ rfl rfl kr kr (i5) (L_want kr (L_ld _ rfl rfl kr ((I.ext T330).rowLd (T := 22) (el := 27) kr kr kr hlt i5) (L_want kr (L_ln _ rfl rfl kr ((I.ext T330).lenR (T := 27) (el := 83) kr hlt) (L_want kr (L_i (((L p).length : Int)) (10010) (.bool false) rfl rfl kr kr rfl (by simp; omega) (L_g 1 kr (L_nil ?_)))))))))
    refine W_cond false kr (fun e => by cases e) (fun _ => ?_)
    refine W_skip (W_region (L_g 3 kr ?_))
    obtain ⟨b5, o5, i5, l5⟩ := (I.ext T330).row (T := 22) (el := 27) kr kr kr hlt
    refine L_ix _ rfl rfl kr kr (i5) (L_ld _ rfl rfl kr ((I.ext T330).rowLd (T := 22) (el := 27) kr kr kr hlt i5) (L_c rfl rfl kr (events_ok ((I.ext T330).r p hlt) (by omega)) ?_))
    rintro v334 h334 ⟨Gw334, t334, hw334⟩
    dsimp only at Gw334 t334 hw334
    obtain ⟨ea334, ec334, rfl⟩ := Gw334.sd.form
    replace c304 := c304.ext t334
    have T334 := T330.ext t334
    have N334 := T334.nx
    have W334 : Sm (fun b => vb (.slice pa p pc) = some b) h330 h334 := W330.ext t334
    have NW334 := W334.nx
    have Z334 := Z330.ext t334
    have NZ334 := Z334.nx
    have Y334 : Sm (fun b => vb (.slice pa p pc) = some b) h334 h334 := .refl
    have hx334 := W330.nx
    have hy334 := t334.nx
    refine L_nwc [(.slice ea334 (L p).length ec334)] (.sl 1 1) rfl rfl kr fun h335 c335 t335 n335 => ?_
    replace c304 := c304.ext t335
    have T335 := T334.ext t335
    have W335 : Sm (fun b => vb (.slice pa p pc) = some b) h330 h335 := W334.ext t335
    have Z335 := Z334.ext t335
    have Y335 : Sm (fun b => vb (.slice pa p pc) = some b) h334 h335 := Y334.ext t335
    have N335 := T335.nx
    have NW335 := W335.nx
    have NZ335 := Z335.nx
    have NY335 := Y335.nx
    obtain ⟨v336, h336, e336, g336, s336, n336⟩ := Gr.append (P := Tryz.prog) (sT := 26) (xT := 26) (el := 28) (by_ := 24) (z := .slice none 0 0) (m := 1) (ds := [(.slice ea334 (L p).length ec334)]) kr kr kr kr kr kr (by decide) (show Gr h335 1 (.slice pa p pc) p ((List.range p).map W) from Gp.ext Z335) (u := .slice (some ⟨h334.next, 0, none⟩) 1 1) (Cl.sd c335 rfl) (fun x hx => by cases List.mem_singleton.1 hx; rfl) (by omega)
    obtain ⟨av336, cv336, rfl⟩ := g336.sd.form
    have q336 : ∀ b, vb (.slice av336 (p + 1) cv336) = some b → h.next < b := fun b hb => (n336 b hb).elim (hpb b) (fun e => by omega)
    refine L_bi (.slice av336 (p + 1) cv336) h336 rfl rfl kr (vs := [.slice pa p pc, .slice (some ⟨h334.next, 0, none⟩) 1 1]) kr (bi_append e336) ?_
    replace c304 := c304.sm s336 (fun hb => by first | (have := hpb _ hb; omega) | (have := Gp.lt hb; omega))
    have T336 : Sm Nix h h336 := T335.trans s336 (fun b hb => .inr (Nat.le_of_lt (hpb b hb)))
    have N336 := T336.nx
    have W336 : Sm (fun b => vb (.slice pa p pc) = some b) h330 h336 := W335.trans s336 (fun b hb => .inl hb)
    have NW336 := W336.nx
    have Y336 : Sm (fun b => vb (.slice pa p pc) = some b) h334 h336 := Y335.trans s336 (fun b hb => .inl hb)
    have NY336 := Y336.nx
    have hr336 : ∀ q, q < p + 1 → Sd h336 6 (ups W p (.slice ea334 (L p).length ec334) q) (L q).length ((L q).flatMap ev6) ∧ ∀ b, vb (ups W p (.slice ea334 (L p).length ec334) q) = some b → vb (.slice av336 (p + 1) cv336) ≠ some b := fun q hq => by
      by_cases e : q = p
      · subst e
        rw [ups_at]
        refine ⟨Gr.sd (Gw334.sm Y336 (fun b hb hx => by have := Gp.lt hx; have := hw334 b hb; omega)), fun b hb hx => ?_⟩
        have h1 := hw334 b hb
        have h2 := Gw334.lt hb
        rcases n336 b hx with h3 | h3
        · have := Gp.lt h3; omega
        · omega
      · rw [ups_ne _ _ e]
        obtain ⟨ha, hb2⟩ := hrow q (by omega)
        refine ⟨ha.sm W336 (fun b hb hx => hb2 b hb hx), fun b hb hx => ?_⟩
        have h2 := ha.lt hb
        rcases n336 b hx with h3 | h3
        · exact hb2 b hb h3
        · omega
    refine L_g 1 kr (L_nil (W_rg 1 kr (L_i ((p : Int)) (1) (nv ((p + 1 : Nat) : Int)) rfl rfl kr kr rfl (inc_ok (by omega)) (L_g 1 kr (L_nil ?_)))))
    exact ⟨N - (p + 1), by omega, p + 1, (ups W p (.slice ea334 (L p).length ec334)), av336, cv336, by omega, (fun q hq => (Nat.lt_succ_iff_lt_or_eq.1 hq).elim (hlen q) (fun e => by rw [e]; omega)), by rw [rng_snoc]; exact g336, q336, hr336, rfl, kr, kr, kr, kr, T336, c304⟩
  ·
   have hge : N = p := by simp at hb; omega
   subst hge
   have hB2 : ∀ q, (L q).length < 1000000000 := fun q => by
    by_cases hq : q < N
    · have := hlen q hq; omega
    · rw [hL0 q (by omega)]; decide
   have hN2 : N < 1000000 := by omega
   have I2 : TIn h330 (fun b => b < h330.next) (VT0 (.slice pa N pc) W) N L := ⟨Gp.sd, fun q hq => (hrow q hq).1, fun b hb => Gp.lt hb, fun q b hq hb => (hrow q hq).1.lt hb⟩
   have Q0 : Sm Nix h330 h330 := .refl
   refine W_exit ?_
   repeat with_reducible refine then_exit ?_
   refine exit_here (W_sg 1 kr (L_ld _ rfl rfl kr (c304.ld (o := 0) kr rfl) (L_g 1 kr (L_ld _ rfl rfl kr (c304.ld (o := 1) kr rfl) (L_g 1 kr (L_ld _ rfl rfl kr (c304.ld (o := 2) kr rfl) (L_g 1 kr (L_ld _ rfl rfl kr (c304.ld (o := 3) kr rfl) (L_g 1 kr ?_)))))))))
   refine L_nwc [nv 0, nv 0, nv 0, nv 0] .ptr rfl rfl kr fun h337 c337 t337 n337 => ?_
   replace c304 := c304.ext t337
   have T337 := T330.ext t337
   have Q337 := Q0.ext t337
   have N337 := T337.nx
   have NQ337 := Q337.nx
   obtain ⟨h338, e338, d338, t338, n338⟩ := c337.sA 30 [nv C.s, nv C.c, nv C.r, nv C.m]
   replace c304 := c304.sn t338
   replace c337 := d338
   have T338 := T337.tr t338
   have Q338 := Q337.tr t338
   have N338 := T338.nx
   have NQ338 := Q338.nx
   refine L_st _ rfl rfl rfl kr kr (e338) (L_nil (W_sg 1 kr (L_ld _ rfl rfl kr (Cl.allN (n := 4) c337 rfl kr) (L_c rfl rfl kr ((profile_ok (C := C) (TIn.mono (I2.ext Q338) (fun b hb _ => Nat.lt_of_lt_of_le hb Q338.nx)) hL0 hB2 hN2).mono pu_of) ?_))))
   rintro v339 h339 ⟨sa1, sc1, pa1, pc1, wa1, wc1, V1, e339, t339, ga1, gb1, gc1, gd1⟩
   dsimp only at e339 t339 ga1 gb1 gc1 gd1
   subst e339
   replace c304 := c304.ext t339
   replace c337 := c337.ext t339
   have T339 := T338.ext t339
   have N339 := T339.nx
   have Q339 := Q338.ext t339
   have NQ339 := Q339.nx
   have A339 : Sm Nix h339 h339 := .refl
   have hz339 := t339.nx
   refine L_g 3 kr (L_nwc [.slice none 0 0, nv 0, .slice none 0 0, .slice none 0 0] .ptr rfl rfl kr fun h340 c340 t340 n340 => ?_)
   replace c304 := c304.ext t340
   replace c337 := c337.ext t340
   have T340 := T339.ext t340
   have Q340 := Q339.ext t340
   have A340 := A339.ext t340
   have N340 := T340.nx
   have NQ340 := Q340.nx
   have NA340 := A340.nx
   obtain ⟨h341, e341, d341, t341, n341⟩ := c340.sA 35 [.slice sa1 (Mn N L C) sc1, nv (En N L C), .slice pa1 (Pn N L C).length pc1, .slice wa1 (Mn N L C) wc1]
   replace c304 := c304.sn t341
   replace c337 := c337.sn t341
   replace c340 := d341
   have T341 := T340.tr t341
   have Q341 := Q340.tr t341
   have A341 := A340.tr t341
   have N341 := T341.nx
   have NQ341 := Q341.nx
   have NA341 := A341.nx
   refine L_st _ rfl rfl rfl kr kr (e341) (L_g 1 kr (L_nil (W_sg 1 kr (L_ld _ rfl rfl kr (Cl.allN (n := 4) c304 rfl kr) (L_c rfl rfl kr ((rprofile_ok (C := C) (TIn.mono (I.ext T341) (fun b hb _ => Nat.lt_of_lt_of_le hb T341.nx)) hL0 hB2 hN2 hcap).mono pu_of) ?_)))))
   rintro v342 h342 ⟨sa2, sc2, pa2, pc2, wa2, wc2, V2, e342, t342, ga2, gb2, gc2, gd2⟩
   dsimp only at e342 t342 ga2 gb2 gc2 gd2
   subst e342
   replace c304 := c304.ext t342
   replace c337 := c337.ext t342
   replace c340 := c340.ext t342
   have T342 := T341.ext t342
   have N342 := T342.nx
   have Q342 := Q341.ext t342
   have NQ342 := Q342.nx
   have A342 := A341.ext t342
   have NA342 := A342.nx
   have B342 : Sm Nix h342 h342 := .refl
   have hz342 := t342.nx
   refine L_g 3 kr (L_nwc [.slice none 0 0, nv 0, .slice none 0 0, .slice none 0 0] .ptr rfl rfl kr fun h343 c343 t343 n343 => ?_)
   replace c304 := c304.ext t343
   replace c337 := c337.ext t343
   replace c340 := c340.ext t343
   have T343 := T342.ext t343
   have Q343 := Q342.ext t343
   have A343 := A342.ext t343
   have B343 := B342.ext t343
   have N343 := T343.nx
   have NQ343 := Q343.nx
   have NA343 := A343.nx
   have NB343 := B343.nx
   obtain ⟨h344, e344, d344, t344, n344⟩ := c343.sA 42 [.slice sa2 (Mn N L C) sc2, nv (En N L C), .slice pa2 (Pn N L C).length pc2, .slice wa2 (Mn N L C) wc2]
   replace c304 := c304.sn t344
   replace c337 := c337.sn t344
   replace c340 := c340.sn t344
   replace c343 := d344
   have T344 := T343.tr t344
   have Q344 := Q343.tr t344
   have A344 := A343.tr t344
   have B344 := B343.tr t344
   have N344 := T344.nx
   have NQ344 := Q344.nx
   have NA344 := A344.nx
   have NB344 := B344.nx
   refine L_st _ rfl rfl rfl kr kr (e344) (L_g 1 kr (L_nil (W_sg 1 kr (L_ld _ rfl rfl kr (Cl.allN (n := 4) c337 rfl kr) (L_c rfl rfl kr ((blame_ok (C := C) (TIn.mono (I2.ext Q344) (fun b hb _ => Nat.lt_of_lt_of_le hb Q344.nx)) hL0 hB2 hN2).mono bu_of) ?_)))))
   rintro v345 h345 ⟨oa3, oc3, e345, t345, go3⟩
   dsimp only at e345 t345 go3
   subst e345
   replace c304 := c304.ext t345
   replace c340 := c340.ext t345
   replace c343 := c343.ext t345
   have T345 := T344.ext t345
   have N345 := T345.nx
   have Q345 := Q344.ext t345
   have NQ345 := Q345.nx
   have A345 := A344.ext t345
   have NA345 := A345.nx
   have B345 := B344.ext t345
   have NB345 := B345.nx
   have D345 : Sm Nix h345 h345 := .refl
   have hz345 := t345.nx
   refine L_g 5 kr (L_nil (W_sg 1 kr (L_ld _ rfl rfl kr (Cl.allN (n := 4) c304 rfl kr) (L_c rfl rfl kr ((rblame_ok (C := C) (TIn.mono (I.ext T345) (fun b hb _ => Nat.lt_of_lt_of_le hb T345.nx)) hL0 hB2 hN2 hcap).mono bu_of) ?_))))
   rintro v346 h346 ⟨oa4, oc4, e346, t346, go4⟩
   dsimp only at e346 t346 go4
   subst e346
   replace c340 := c340.ext t346
   replace c343 := c343.ext t346
   have T346 := T345.ext t346
   have N346 := T346.nx
   have Q346 := Q345.ext t346
   have NQ346 := Q346.nx
   have A346 := A345.ext t346
   have NA346 := A346.nx
   have B346 := B345.ext t346
   have NB346 := B346.nx
   have D346 := D345.ext t346
   have ND346 := D346.nx
   have E346 : Sm Nix h346 h346 := .refl
   have hz346 := t346.nx
   refine L_g 5 kr (L_nil (W_seq (W_seq ?_)))
   have hBl : (Bl N L C).length < 1000000 := by
    unfold Bl
    split
    · rw [blmA_len]; exact hN2
    · decide
   have hMl : Mn N L C ≤ N := by unfold Mn; split <;> omega
   have hPl : (Pn N L C).length < 1000000 := by
    unfold Pn
    split
    · rename_i he
      have G := errT_ok hL0 he
      rw [List.length_reverse]
      cases hla : lastT (timesS N L C) N with
      | none => rw [pathT_none hla]; decide
      | some a => have := (pathT_ok G.d hla).2.1; have := (show Bn N L C from ⟨G.n1, G.len, G.c, G.d.l⟩).tot G.d.g; omega
    · decide
   have hSl : ∀ q, (timesS N L C q).length ≤ 10010 ∨ errT N L C ≠ 0 := fun q => by
    by_cases he : errT N L C = 0
    · have G := errT_ok hL0 he
      have hd := G.d.d q
      left
      rw [hd]
      by_cases hq : q < N
      · exact hlen q hq
      · rw [hL0 q (by omega)]; decide
    · exact .inr he
   ·
    refine W_rg 2 kr (L_i ((errT N L C)) ((errT N L C)) (.bool false) rfl rfl kr kr rfl (by simp) (L_g 3 kr (L_want kr (L_i ((errT N L C)) ((errT N L C)) (.bool false) rfl rfl kr kr rfl (by simp) (L_g 4 kr (L_want kr (L_c rfl rfl kr (same_ok (go3.ext D346) (go4.ext E346) hBl) ?_)))))))
    rintro v347 h347 ⟨e347, t347⟩
    try dsimp only at e347
    try dsimp only at t347
    subst e347
    replace c340 := c340.ext t347
    replace c343 := c343.ext t347
    have T347 := T346.ext t347
    have Q347 := Q346.ext t347
    have A347 := A346.ext t347
    have B347 := B346.ext t347
    have D347 := D346.ext t347
    have E347 := E346.ext t347
    have N347 := T347.nx
    have NQ347 := Q347.nx
    have NA347 := A347.nx
    have NB347 := B347.nx
    have ND347 := D347.nx
    have NE347 := E347.nx
    have M347 := t347.nx
    refine L_g 4 kr (L_want kr (L_ld _ rfl rfl kr (c340.ld (o := 1) kr rfl) (L_g 1 kr (L_want kr (L_ld _ rfl rfl kr (c343.ld (o := 1) kr rfl) (L_want kr (L_i ((En N L C)) ((En N L C)) (.bool false) rfl rfl kr kr rfl (by simp) (L_g 3 kr (L_want kr (L_ld _ rfl rfl kr (c340.ld (o := 2) kr rfl) (L_g 1 kr ?_)))))))))))
    refine L_want kr (L_ld _ rfl rfl kr (c343.ld (o := 2) kr rfl) (L_want kr (L_c rfl rfl kr (steps_ok (gc1.ext A347) (gc2.ext B347) hPl) ?_)))
    rintro v348 h348 ⟨e348, t348⟩
    try dsimp only at e348
    try dsimp only at t348
    subst e348
    replace c340 := c340.ext t348
    replace c343 := c343.ext t348
    have T348 := T347.ext t348
    have Q348 := Q347.ext t348
    have A348 := A347.ext t348
    have B348 := B347.ext t348
    have D348 := D347.ext t348
    have E348 := E347.ext t348
    have N348 := T348.nx
    have NQ348 := Q348.nx
    have NA348 := A348.nx
    have NB348 := B348.nx
    have ND348 := D348.nx
    have NE348 := E348.nx
    have M348 := t348.nx
    refine L_g 4 kr (L_want kr (L_ld _ rfl rfl kr (c340.ld (o := 0) kr rfl) (L_want kr (L_ln _ rfl rfl kr ((ga1.ext A348).len (T := 31) (el := 51) kr) (L_g 1 kr (L_want kr (L_ld _ rfl rfl kr (c343.ld (o := 0) kr rfl) (L_want kr (L_ln _ rfl rfl kr ((ga2.ext B348).len (T := 39) (el := 52) kr) (L_want kr (L_i (((Mn N L C) : Int)) (((Mn N L C) : Int)) (.bool false) rfl rfl kr kr rfl (by simp) ?_)))))))))))
    refine L_g 3 kr (L_want kr (L_ld _ rfl rfl kr (c340.ld (o := 3) kr rfl) (L_want kr (L_ln _ rfl rfl kr ((gd1.ext A348).len (T := 33) (el := 53) kr) (L_g 1 kr (L_want kr (L_ld _ rfl rfl kr (c343.ld (o := 3) kr rfl) (L_want kr (L_ln _ rfl rfl kr ((gd2.ext B348).len (T := 33) (el := 53) kr) (L_want kr (L_i (((Mn N L C) : Int)) (((Mn N L C) : Int)) (.bool false) rfl rfl kr kr rfl (by simp) ?_)))))))))))
    refine L_g 1 kr (L_nil ?_)
    refine W_cond false kr (fun e => by cases e) (fun _ => ?_)
    refine W_skip (W_seq (W_seq (W_region ?_)))
    replace ga1 := ga1.ext A348
    replace gd1 := gd1.ext A348
    replace ga2 := ga2.ext B348
    replace gd2 := gd2.ext B348
    replace gb1 := fun q hq => (gb1 q hq).ext A348
    replace gb2 := fun q hq => (gb2 q hq).ext B348
    refine L_p (nv 0) rfl kr (L_nil (W_block ?_))
    refine W_loop (fun mm fr hh => ∃ (p : Nat), (p ≤ (Mn N L C)) ∧ (Sm Nix h348 hh) ∧ mm = (Mn N L C) - p ∧ fr 8 = ptr h339.next ∧ fr 10 = ptr h342.next ∧ fr 16 = nv (p : Int) ∧ Sm Nix h hh ∧ Cl hh (h339.next) [.slice sa1 (Mn N L C) sc1, nv (En N L C), .slice pa1 (Pn N L C).length pc1, .slice wa1 (Mn N L C) wc1] ∧ Cl hh (h342.next) [.slice sa2 (Mn N L C) sc2, nv (En N L C), .slice pa2 (Pn N L C).length pc2, .slice wa2 (Mn N L C) wc2]) ((Mn N L C)) ?_ ?_
    ·
      exact ⟨0, Nat.zero_le _, .refl, rfl, kr, kr, kr, T348, c340, c343⟩
    rintro mm349 fr349 h349 ⟨p, hp, Vq, hm349, y349_8, y349_10, y349_16, T349, c340, c343⟩
    have N349 := T349.nx
    have B349_t8 := c340.lt
    have B349_t10 := c343.lt
    refine W_set (k := 8) y349_8 (W_set (k := 10) y349_10 (W_set (k := 16) y349_16 ?_))
    have hvq := Vq.nx
    refine W_seq (W_sg 2 kr (L_ld _ rfl rfl kr (c340.ld (o := 0) kr rfl) (L_ln _ rfl rfl kr ((ga1.ext Vq).len (T := 31) (el := 51) kr) (L_g 1 kr (L_nil ?_)))))
    refine W_cond (decide ((p : Int) < ((Mn N L C) : Nat))) kr (fun hb => ?_) (fun hb => ?_)
    ·
      have hlt : p < (Mn N L C) := by simp at hb; omega
      have hSp : (timesS N L C p).length ≤ 10010 := by rcases hSl p with h | h; exact h; exfalso; unfold Mn at hlt; rw [if_neg h] at hlt; omega
      refine W_skip (W_seq (W_block (W_seq (W_seq (W_drawn kr (D_l (l := [0,1,2,3,4,5,6,7,8,9,10,11,12,13,14,15,16,17,18,19,20,21,22,23,24,25]) kr kr Rk_nil (NS_b 1 kr (NS_ld _ rfl rfl kr kr kr (c340.ld (o := 0) kr rfl) (NS_b 1 kr ?_)))))))))
      obtain ⟨b1a, o1a, _, i1a, l1a⟩ := (ga1.ext Vq).at (P := Tryz.prog) (T := 31) (el := 51) (k := 1) kr kr hlt .i64
      refine NS_ix _ rfl rfl kr kr kr kr (i1a) ?_
      refine NS_ld _ rfl rfl kr kr kr (ld_cell kr ((Sd.cellAt (T := 31) (el := 51) (ga1.ext Vq) kr kr hlt i1a (j := 0) (by decide)).trans (by rw [Nat.mul_one, Nat.add_zero, List.getElem?_map, List.getElem?_range hlt]; rfl))) ?_
      refine NS_ln _ rfl rfl kr kr kr (((gb1 p hlt).ext Vq).len (T := 51) (el := 55) kr) (NS_b 1 kr (NS_ld _ rfl rfl kr kr kr (c343.ld (o := 0) kr rfl) (NS_b 1 kr ?_)))
      obtain ⟨b2a, o2a, _, i2a, l2a⟩ := (ga2.ext Vq).at (P := Tryz.prog) (T := 39) (el := 52) (k := 1) kr kr hlt .i64
      refine NS_ix _ rfl rfl kr kr kr kr (i2a) ?_
      refine NS_ld _ rfl rfl kr kr kr (ld_cell kr ((Sd.cellAt (T := 39) (el := 52) (ga2.ext Vq) kr kr hlt i2a (j := 0) (by decide)).trans (by rw [Nat.mul_one, Nat.add_zero, List.getElem?_map, List.getElem?_range hlt]; rfl))) ?_
      refine NS_ln _ rfl rfl kr kr kr (((gb2 p hlt).ext Vq).len (T := 52) (el := 56) kr) (NS_i ((((timesS N L C) p).length : Int)) ((((timesS N L C) p).length : Int)) (.bool false) rfl rfl kr kr kr kr rfl (by simp) (NS_b 2 kr (NS_ld _ rfl rfl kr kr kr (c340.ld (o := 3) kr rfl) (NS_b 1 kr ?_))))
      obtain ⟨b1w, o1w, _, i1w, l1w⟩ := (gd1.ext Vq).at (P := Tryz.prog) (T := 33) (el := 53) (k := 2) kr kr hlt .i64
      refine NS_ix _ rfl rfl kr kr kr kr (i1w) ?_
      refine NS_ld _ rfl rfl kr kr kr (ld_l (l := w2 (waitsT ((timesS N L C) p))) kr (fun j hj => (Sd.cellAt (T := 33) (el := 53) (gd1.ext Vq) kr kr hlt i1w hj).trans (flat_at w2 w2_len (by rw [List.getElem?_map, List.getElem?_range hlt]; rfl) hj))) ?_
      refine NS_b 1 kr (NS_ld _ rfl rfl kr kr kr (c343.ld (o := 3) kr rfl) (NS_b 1 kr ?_))
      obtain ⟨b2w, o2w, _, i2w, l2w⟩ := (gd2.ext Vq).at (P := Tryz.prog) (T := 33) (el := 53) (k := 2) kr kr hlt .i64
      refine NS_ix _ rfl rfl kr kr kr kr (i2w) ?_
      refine NS_ld _ rfl rfl kr kr kr (ld_l (l := w2 (waitsT ((timesS N L C) p))) kr (fun j hj => (Sd.cellAt (T := 33) (el := 53) (gd2.ext Vq) kr kr hlt i2w hj).trans (flat_at w2 w2_len (by rw [List.getElem?_map, List.getElem?_range hlt]; rfl) hj))) ?_
      refine NS_v (.bool false) rfl kr rfl kr (ev_bin (o := _) rfl kr kr (neq_pair (waitsT ((timesS N L C) p)) _ _ _)) (NS_b 1 kr (NS_nil ?_))
      refine W_cond false kr (fun e => by cases e) (fun _ => ?_)
      refine W_skip (W_sg 1 kr (L_nil (W_block ?_)))
      refine W_loop (fun mm fr hh => ∃ (i : Nat), (i ≤ ((timesS N L C) p).length) ∧ (Sm Nix h348 hh) ∧ mm = ((timesS N L C) p).length - i ∧ fr 8 = ptr h339.next ∧ fr 10 = ptr h342.next ∧ fr 16 = nv (p : Int) ∧ fr 17 = nv (i : Int) ∧ Sm Nix h hh ∧ Cl hh (h339.next) [.slice sa1 (Mn N L C) sc1, nv (En N L C), .slice pa1 (Pn N L C).length pc1, .slice wa1 (Mn N L C) wc1] ∧ Cl hh (h342.next) [.slice sa2 (Mn N L C) sc2, nv (En N L C), .slice pa2 (Pn N L C).length pc2, .slice wa2 (Mn N L C) wc2]) (((timesS N L C) p).length) ?_ ?_
      ·
        exact ⟨0, Nat.zero_le _, Vq, rfl, kr, kr, kr, kr, T349, c340, c343⟩
      rintro mm350 fr350 h350 ⟨i, hi, Vi, hm350, y350_8, y350_10, y350_16, y350_17, T350, c340, c343⟩
      have N350 := T350.nx
      have B350_t8 := c340.lt
      have B350_t10 := c343.lt
      refine W_set (k := 8) y350_8 (W_set (k := 10) y350_10 (W_set (k := 16) y350_16 (W_set (k := 17) y350_17 ?_)))
      have hvi := Vi.nx
      refine W_seq (W_sg 2 kr (L_ld _ rfl rfl kr (c340.ld (o := 0) kr rfl) (L_g 1 kr ?_)))
      obtain ⟨b1a, o1a, _, i1a, l1a⟩ := (ga1.ext Vi).at (P := Tryz.prog) (T := 31) (el := 51) (k := 1) kr kr hlt .i64
      refine L_ix _ rfl rfl kr kr (i1a) ?_
      refine L_ld _ rfl rfl kr (ld_cell kr ((Sd.cellAt (T := 31) (el := 51) (ga1.ext Vi) kr kr hlt i1a (j := 0) (by decide)).trans (by rw [Nat.mul_one, Nat.add_zero, List.getElem?_map, List.getElem?_range hlt]; rfl))) ?_
      refine L_ln _ rfl rfl kr (((gb1 p hlt).ext Vi).len (T := 51) (el := 55) kr) (L_g 1 kr (L_nil ?_))
      refine W_cond (decide ((i : Int) < (((timesS N L C) p).length : Nat))) kr (fun hb => ?_) (fun hb => ?_)
      ·
        have hlt2 : i < ((timesS N L C) p).length := by simp at hb; omega
        obtain ⟨s, hs⟩ : ∃ s, ((timesS N L C) p)[i]? = some s := ⟨_, List.getElem?_eq_getElem hlt2⟩
        refine W_skip (W_seq (W_block (W_seq (W_drawn kr (D_e (e := 18) (l := [0,1,2,3,4,5,6,7,8,9,10,11,12,13,14,15,16,17]) (s' := [8,9,10,11,12,13,14,15]) kr kr rfl kr Rk_nil (NS_b 1 kr (NS_ld _ rfl rfl kr kr kr (c340.ld (o := 0) kr rfl) (NS_b 1 kr ?_))))))))
        obtain ⟨b1a, o1a, _, i1a, l1a⟩ := (ga1.ext Vi).at (P := Tryz.prog) (T := 31) (el := 51) (k := 1) kr kr hlt .i64
        refine NS_ix _ rfl rfl kr kr kr kr (i1a) ?_
        refine NS_ld _ rfl rfl kr kr kr (ld_cell kr ((Sd.cellAt (T := 31) (el := 51) (ga1.ext Vi) kr kr hlt i1a (j := 0) (by decide)).trans (by rw [Nat.mul_one, Nat.add_zero, List.getElem?_map, List.getElem?_range hlt]; rfl))) ?_
        refine NS_b 1 kr ?_
        obtain ⟨b1s, o1s, _, i1s, l1s⟩ := ((gb1 p hlt).ext Vi).at (P := Tryz.prog) (T := 51) (el := 55) (k := 4) kr kr hlt2 .i64
        refine NS_ix _ rfl rfl kr kr kr kr (i1s) (NS_ld _ rfl rfl kr kr kr (ld_l (l := sp4 s) kr (fun j hj => (Sd.cellAt (T := 51) (el := 55) ((gb1 p hlt).ext Vi) kr kr hlt2 i1s hj).trans (flat_at sp4 sp4_len hs hj))) (NS_b 1 kr (NS_ld _ rfl rfl kr kr kr (c343.ld (o := 0) kr rfl) (NS_b 1 kr ?_))))
        obtain ⟨b2a, o2a, _, i2a, l2a⟩ := (ga2.ext Vi).at (P := Tryz.prog) (T := 39) (el := 52) (k := 1) kr kr hlt .i64
        refine NS_ix _ rfl rfl kr kr kr kr (i2a) ?_
        refine NS_ld _ rfl rfl kr kr kr (ld_cell kr ((Sd.cellAt (T := 39) (el := 52) (ga2.ext Vi) kr kr hlt i2a (j := 0) (by decide)).trans (by rw [Nat.mul_one, Nat.add_zero, List.getElem?_map, List.getElem?_range hlt]; rfl))) ?_
        refine NS_b 1 kr ?_
        obtain ⟨b2s, o2s, _, i2s, l2s⟩ := ((gb2 p hlt).ext Vi).at (P := Tryz.prog) (T := 52) (el := 56) (k := 4) kr kr hlt2 .i64
        refine NS_ix _ rfl rfl kr kr kr kr (i2s) (NS_ld _ rfl rfl kr kr kr (ld_l (l := sp4 s) kr (fun j hj => (Sd.cellAt (T := 52) (el := 56) ((gb2 p hlt).ext Vi) kr kr hlt2 i2s hj).trans (flat_at sp4 sp4_len hs hj))) ?_)
        refine NS_nwc [nv 0, nv 0, nv 0, nv 0] .ptr rfl kr rfl rfl kr (Rk_1 rfl rfl (Rk_ld _ rfl rfl rfl kr ((c340.ext (.push h350 _)).ld (o := 0) kr rfl) kr (Rk_1 rfl rfl (Rk_1 rfl rfl (Rk_ld _ rfl rfl rfl kr (ld_cell kr ((Sd.cellAt (T := 31) (el := 51) (ga1.ext (Vi.ext (.push h350 _))) kr kr hlt i1a (j := 0) (by decide)).trans (by rw [Nat.mul_one, Nat.add_zero, List.getElem?_map, List.getElem?_range hlt]; rfl))) kr (Rk_1 rfl rfl (Rk_1 rfl rfl (Rk_ld _ rfl rfl rfl kr (ld_l (l := sp4 s) kr (fun j hj => (Sd.cellAt (T := 51) (el := 55) ((gb1 p hlt).ext (Vi.ext (.push h350 _))) kr kr hlt2 i1s hj).trans (flat_at sp4 sp4_len hs hj))) kr (Rk_1 rfl rfl (Rk_ld _ rfl rfl rfl kr ((c343.ext (.push h350 _)).ld (o := 0) kr rfl) kr (Rk_1 rfl rfl (Rk_1 rfl rfl (Rk_ld _ rfl rfl rfl kr (ld_cell kr ((Sd.cellAt (T := 39) (el := 52) (ga2.ext (Vi.ext (.push h350 _))) kr kr hlt i2a (j := 0) (by decide)).trans (by rw [Nat.mul_one, Nat.add_zero, List.getElem?_map, List.getElem?_range hlt]; rfl))) kr (Rk_1 rfl rfl (Rk_1 rfl rfl (Rk_ld _ rfl rfl rfl kr (ld_l (l := sp4 s) kr (fun j hj => (Sd.cellAt (T := 52) (el := 56) ((gb2 p hlt).ext (Vi.ext (.push h350 _))) kr kr hlt2 i2s hj).trans (flat_at sp4 sp4_len hs hj))) kr (Rk_1 rfl rfl Rk_nil))))))))))))))))) fun h351 c351 t351 n351 => ?_
        replace c340 := c340.ext t351
        replace c343 := c343.ext t351
        have T351 := T350.ext t351
        have Q2351 := Vi.ext t351
        have N351 := T351.nx
        have NQ2351 := Q2351.nx
        refine NS_nwc [nv 0, nv 0, nv 0, nv 0] .ptr rfl kr rfl rfl kr (Rk_1 rfl rfl (Rk_ld _ rfl rfl rfl kr ((c340.ext (.push h351 _)).ld (o := 0) kr rfl) kr (Rk_1 rfl rfl (Rk_1 rfl rfl (Rk_ld _ rfl rfl rfl kr (ld_cell kr ((Sd.cellAt (T := 31) (el := 51) (ga1.ext (Q2351.ext (.push h351 _))) kr kr hlt i1a (j := 0) (by decide)).trans (by rw [Nat.mul_one, Nat.add_zero, List.getElem?_map, List.getElem?_range hlt]; rfl))) kr (Rk_1 rfl rfl (Rk_1 rfl rfl (Rk_ld _ rfl rfl rfl kr (ld_l (l := sp4 s) kr (fun j hj => (Sd.cellAt (T := 51) (el := 55) ((gb1 p hlt).ext (Q2351.ext (.push h351 _))) kr kr hlt2 i1s hj).trans (flat_at sp4 sp4_len hs hj))) kr (Rk_1 rfl rfl (Rk_ld _ rfl rfl rfl kr ((c343.ext (.push h351 _)).ld (o := 0) kr rfl) kr (Rk_1 rfl rfl (Rk_1 rfl rfl (Rk_ld _ rfl rfl rfl kr (ld_cell kr ((Sd.cellAt (T := 39) (el := 52) (ga2.ext (Q2351.ext (.push h351 _))) kr kr hlt i2a (j := 0) (by decide)).trans (by rw [Nat.mul_one, Nat.add_zero, List.getElem?_map, List.getElem?_range hlt]; rfl))) kr (Rk_1 rfl rfl (Rk_1 rfl rfl (Rk_ld _ rfl rfl rfl kr (ld_l (l := sp4 s) kr (fun j hj => (Sd.cellAt (T := 52) (el := 56) ((gb2 p hlt).ext (Q2351.ext (.push h351 _))) kr kr hlt2 i2s hj).trans (flat_at sp4 sp4_len hs hj))) kr (Rk_1 rfl rfl (Rk_1 rfl rfl Rk_nil)))))))))))))))))) fun h352 c352 t352 n352 => ?_
        replace c340 := c340.ext t352
        replace c343 := c343.ext t352
        replace c351 := c351.ext t352
        have T352 := T351.ext t352
        have Q2352 := Q2351.ext t352
        have N352 := T352.nx
        have NQ2352 := Q2352.nx
        refine NS_nil ?_
        obtain ⟨h353, e353, d353, t353, n353⟩ := Cl.storeN (P := Tryz.prog) (T := 55) (n := 4) (v := .agg ⟨(sp4 s)⟩) (cs := (sp4 s)) c351 rfl kr rfl (by first | exact sp4_len _) (List.all_eq_true.1 rfl)
        replace c340 := c340.sn t353
        replace c343 := c343.sn t353
        replace c352 := c352.sn t353
        replace c351 := d353
        have T353 := T352.tr t353
        have Q2353 := Q2352.tr t353
        have N353 := T353.nx
        have NQ2353 := Q2353.nx
        refine L_st _ rfl rfl rfl kr kr (e353) ?_
        refine L_nil ⟨rfl, ?_⟩
        refine D_e (e := 19) (l := []) (s' := []) kr kr rfl kr (Rk_1 rfl rfl (Rk_ld _ rfl rfl rfl kr (c343.ld (o := 0) kr rfl) kr (Rk_1 rfl rfl (Rk_1 rfl rfl (Rk_ld _ rfl rfl rfl kr (ld_cell kr ((Sd.cellAt (T := 39) (el := 52) (ga2.ext Q2353) kr kr hlt i2a (j := 0) (by decide)).trans (by rw [Nat.mul_one, Nat.add_zero, List.getElem?_map, List.getElem?_range hlt]; rfl))) kr (Rk_1 rfl rfl (Rk_1 rfl rfl (Rk_ld _ rfl rfl rfl kr (ld_l (l := sp4 s) kr (fun j hj => (Sd.cellAt (T := 52) (el := 56) ((gb2 p hlt).ext Q2353) kr kr hlt2 i2s hj).trans (flat_at sp4 sp4_len hs hj))) kr Rk_nil)))))))) ?_
        refine NS_nil ?_
        obtain ⟨h354, e354, d354, t354, n354⟩ := Cl.storeN (P := Tryz.prog) (T := 56) (n := 4) (v := .agg ⟨(sp4 s)⟩) (cs := (sp4 s)) c352 rfl kr rfl (by first | exact sp4_len _) (List.all_eq_true.1 rfl)
        replace c340 := c340.sn t354
        replace c343 := c343.sn t354
        replace c351 := c351.sn t354
        replace c352 := d354
        have T354 := T353.tr t354
        have Q2354 := Q2353.tr t354
        have N354 := T354.nx
        have NQ2354 := Q2354.nx
        refine L_st _ rfl rfl rfl kr kr (e354) ?_
        refine L_nil ⟨rfl, ?_⟩
        refine D_l (l := []) kr kr Rk_nil (NS_nil (W_sg 1 kr (L_ld _ rfl rfl kr (c351.ld (o := 0) kr rfl) (L_g 1 kr (L_ld _ rfl rfl kr (c352.ld (o := 0) kr rfl) (L_i (s.b) (s.b) (.bool false) rfl rfl kr kr rfl (by simp) (L_g 2 kr (L_want kr (L_ld _ rfl rfl kr (c351.ld (o := 1) kr rfl) ?_)))))))))
        refine L_g 1 kr (L_want kr (L_ld _ rfl rfl kr (c352.ld (o := 1) kr rfl) (L_want kr (L_i (s.e) (s.e) (.bool false) rfl rfl kr kr rfl (by simp) (L_g 3 kr (L_want kr (L_ld _ rfl rfl kr (c351.ld (o := 2) kr rfl) (L_g 1 kr (L_want kr (L_ld _ rfl rfl kr (c352.ld (o := 2) kr rfl) (L_want kr ?_)))))))))))
        refine L_i (s.w) (s.w) (.bool false) rfl rfl kr kr rfl (by simp) (L_g 3 kr (L_want kr (L_ld _ rfl rfl kr (c351.ld (o := 3) kr rfl) (L_g 1 kr (L_want kr (L_ld _ rfl rfl kr (c352.ld (o := 3) kr rfl) (L_want kr (L_i (s.y) (s.y) (.bool false) rfl rfl kr kr rfl (by simp) (L_g 1 kr (L_nil ?_))))))))))
        refine W_cond false kr (fun e => by cases e) (fun _ => ?_)
        refine W_skip (W_rg 1 kr (L_i ((i : Int)) (1) (nv ((i + 1 : Nat) : Int)) rfl rfl kr kr rfl (inc_ok (by omega)) (L_g 1 kr (L_nil ?_))))
        exact ⟨((timesS N L C) p).length - (i + 1), by omega, i + 1, by omega, Q2354, rfl, kr, kr, kr, kr, T354, c340, c343⟩
      ·
        refine W_exit ?_
        repeat with_reducible refine then_exit ?_
        refine exit_here (W_rg 1 kr (L_i ((p : Int)) (1) (nv ((p + 1 : Nat) : Int)) rfl rfl kr kr rfl (inc_ok (by omega)) (L_g 1 kr (L_nil ?_))))
        exact ⟨(Mn N L C) - (p + 1), by omega, p + 1, by omega, Vi, rfl, kr, kr, kr, T350, c340, c343⟩
    ·
      refine W_exit ?_
      repeat with_reducible refine then_exit ?_
      refine exit_here (W_seq (W_region (L_c rfl rfl kr (works_ok) ?_)))
      rintro v12 h12 e12
      cases e12
      refine L_g 1 kr (L_nil (W_ret ?_))
      repeat first | with_reducible refine then_ret ?_ | with_reducible refine blk_ret ?_
      refine done_of (v := .bool true) (.inl rfl) kr ?_
      rfl
end
end Go.Proofs.YtjhbbdfbngbjcaaGreatDoor
