/- The closed evaluator, part P: regions that draw their order are evaluated rightly (2). -/
import Derived.Test.YtdaedcoolcicoaaXO
namespace Go.X
noncomputable section
open Go Go.RowKit
variable {w0 w w' : World} {φ φ' φ0 : Phi} {h h' h0 h1 h2 : AH} {P : Program} {n : Nat} {t t' tb t1 t2 : T Value} {ops : Array Oper} {ls ms : List Nat}

theorem opK_defer {o : Op} (hk : opK o ≠ 0) : ∀ c, o ≠ .defer c := fun c e => by subst e; simp [opK] at hk
/-- What is yet to come, and all that is known. -/
def Inv (w0 : World) (P : Program) (call : Call1) (n : Nat) (ops : Array Oper) (ls ms : List Nat) (φ0 : Phi) (h0 : AH) (tb : T Value) (d0 : List Deferred) (l : List (T Value × AH)) (lst : Nat → Prop) (a : Act) (w : World) : Prop :=
  ∃ k L seen t1 h1 lo φ b, aCont P call n ops ls ms (aLv P call n ops ls ms k) L seen t1 h1 = some lo ∧ (∀ x, x ∈ lo → x ∈ l) ∧
    Core w0 P n ops φ0 h0 tb d0 (fun i => ls.getD i 0 < L ∨ (isE ops i = false ∧ ls.getD i 0 = L)) (seen ++ lvN ops ls L) t1 h1 φ b lst a w ∧
    ∀ (i : Nat) (o : Oper), ops[i]? = some o → opK o.op = 2 → (ls.getD i 0 < L ∨ (isE ops i = false ∧ ls.getD i 0 = L)) → ¬ lst i → aWant n t1 ops o = true → ∃ v, aVal P n t1 h1 o.op = some v ∧ ∀ d, o.dst = some d → vt t1 d = v
theorem enter_inv (sp : PlanSpec n ops ls ms) (hn : n ≤ T.top) {call : Call1} {d0 : List Deferred} {k L : Nat} {seen : List Nat} {b : Nat → Nat} {lst : Nat → Prop} {a : Act} {lo l : List (T Value × AH)}
    (c : Core w0 P n ops φ0 h0 tb d0 (fun i => ls.getD i 0 < L) seen t h φ b lst a w) (hs : aLv P call n ops ls ms k L seen t h = some lo) (hsub : ∀ x, x ∈ lo → x ∈ l) : Inv w0 P call n ops ls ms φ0 h0 tb d0 l lst a w := by
  cases k with
  | zero => simp [aLv] at hs
  | succ k =>
    simp only [aLv] at hs
    split at hs
    · cases hs
    · rename_i t1 h1 hns
      split at hs
      · rename_i hr
        obtain ⟨b', c1, c2⟩ := enter_ok sp hn c hns hr
        exact ⟨k, L, seen, t1, h1, lo, φ, b', hs, hsub, c1, c2⟩
      · cases hs
theorem step_inv (hN : NoCount P) {call : Call1} (hc : CallsOk w0 P call) (sp : PlanSpec n ops ls ms) (hn : n ≤ T.top) {d0 : List Deferred} {l : List (T Value × AH)} {lst : Nat → Prop} {a : Act} {q : Option Nat} {m : Nat} {Q : Exit → Act → World → Prop} {K : Act → World → Prop}
    (hcl : ∀ (i : Nat) (o : Oper), lst i → ops[i]? = some o → ∀ j, j ∈ edgesOf o → lst j) (inv : Inv w0 P call n ops ls ms φ0 h0 tb d0 l lst a w) {i : Nat} {o : Oper} (ho : ops[i]? = some o) (hun : ¬ lst i) (hrd : ∀ j, j ∈ edgesOf o → lst j)
    (hK : ∀ a' w', Inv w0 P call n ops ls ms φ0 h0 tb d0 l (fun j => lst j ∨ j = i) a' w' → K a' w') : wpOpIn (FW q) m P ops Q i K a w := by
  obtain ⟨k, L, seen, t1, h1, lo, φ, b, hcont, hsub, c, k2⟩ := inv
  have hi : i < ops.size := (Array.getElem?_eq_some_iff.1 ho).1
  have hdi := dstAt_eq ho
  -- its level
  have hle : ls.getD i 0 ≤ L := by
    rcases sp.att i o ho with h5 | ⟨j, hj, h5⟩
    · omega
    · have hlj := hrd j hj
      have hjl : j < ops.size := Nat.lt_trans (sp.edge i o j ho hj).1 hi
      have hd := c.ld j hjl hlj
      unfold step1 at h5
      cases hE : isE ops j with
      | true =>
        rw [hE] at h5
        simp only [if_true] at h5
        rcases hd with hd | hd
        · omega
        · rw [hE] at hd; cases hd.1
      | false =>
        rw [hE] at h5
        simp only [Bool.false_eq_true, if_false, Nat.add_zero] at h5
        rcases hd with hd | hd <;> omega
  obtain ⟨tS, fS, wS, uS⟩ := c.frame hn
  -- a slot that no edge of its own writes is as it was
  have noedge : ∀ s, s ∈ slots o.op → s < n → (∀ j, j ∈ edgesOf o → dstAt ops j ≠ some s) → vt tS s = vt tb s := by
    intro s hs hsn hno
    refine uS s hsn (fun j hl hd => ?_)
    rcases sp.slot i o s j ho hs hd with h5 | h5
    · exact hno j h5 hd
    · have hjo : ops[j]? = some (ops[j]'(dstAt_lt hd)) := Array.getElem?_eq_getElem (dstAt_lt hd)
      have h6 := h5.1
      unfold edgeTo at h6
      rw [hjo] at h6
      exact hun (hcl j _ hl hjo i (by simpa using h6))
  have gS : ∀ s, gslot ops o = some s → s < n → vt tS s = vt t1 s := by
    intro s hg hsn
    unfold gslot at hg
    cases hq : o.guard with
    | none => rw [hq] at hg; cases hg
    | some p =>
      obtain ⟨g, y⟩ := p
      rw [hq] at hg
      exact wS s g hsn (hrd g (sp.guard i o g y ho hq)) hg
  unfold wpOpIn
  rw [ho]
  dsimp only
  rw [want_ok fS]
  cases hE : isE ops i with
  | false =>
    have hdone : ls.getD i 0 < L ∨ (isE ops i = false ∧ ls.getD i 0 = L) := by
      rcases Nat.lt_or_ge (ls.getD i 0) L with h5 | h5
      · exact .inl h5
      · exact .inr ⟨hE, by omega⟩
    have hk0 : opK o.op ≠ 0 := by rw [isE_of ho] at hE; simpa using hE
    obtain ⟨tq, hh, q1, q2, q3, q4⟩ := c.nn i o ho hE hdone hun
    have aS : ∀ s, s ∈ slots o.op → s < n → vt tq s = vt tS s := by
      intro s hs hsn
      by_cases e : ∃ j, j ∈ edgesOf o ∧ dstAt ops j = some s
      · obtain ⟨j, hj, hd⟩ := e
        rw [(q1 s hs).1 j hj hd, wS s j hsn (hrd j hj) hd]
      · have hno : ∀ j, j ∈ edgesOf o → dstAt ops j ≠ some s := fun j hj hd => e ⟨j, hj, hd⟩
        rw [(q1 s hs).2 hno, noedge s hs hsn hno]
    have gq : ∀ s, gslot ops o = some s → s < n → vt tq s = vt tS s := fun s hg hsn => by rw [q2 s hg, gS s hg hsn]
    have hwq : aWant n tq ops o = aWant n tS ops o := aWant_congr gq
    have hw1 : aWant n t1 ops o = aWant n tS ops o := aWant_congr (fun s hg hsn => (gS s hg hsn).symm)
    -- what is known behind
    have fin : ∀ {v v' : Value} {w' : World} {φ' : Phi}, Le φ φ' → Nx φ0 φ' h0 h1 → R w0 φ' h1 w' → VR φ' v v' → (∀ d, o.dst = some d → vt t1 d = v) →
        (∀ (j : Nat) (o' : Oper), ops[j]? = some o' → j ≠ i → isE ops j = false → (ls.getD j 0 < L ∨ (isE ops j = false ∧ ls.getD j 0 = L)) → b j < h1.next → φ (b j) = none → φ' (b j) = none) → K (a.put o.dst v') w' := by
      intro v v' w' φ' le nx r hv hd hkeep
      obtain ⟨p1, p2, p3, p4⟩ := c.put le ho hv (fun s _ => rfl) hd
      refine hK _ _ ⟨k, L, seen, t1, h1, lo, φ', b, hcont, hsub, ⟨fun j hj hl => ?_, fun j hj hEj hdj => .inl (c.ed j hj hEj hdj), r, nx, p1, p2, p3, p4, c.tt, fun j o' ho' hEj hdj hl => ?_, c.bb, c.bl, fun j o' ho' hkj hdj hl => c.sn j o' ho' hkj hdj (fun x => hl (.inl x))⟩,
        fun j o' ho' hkj hdj hl hw => k2 j o' ho' hkj hdj (fun x => hl (.inl x)) hw⟩
      · rcases hl with hl | hl
        · exact c.ld j hj hl
        · subst hl; exact hdone
      · obtain ⟨tq', hh', e1, e2, e3, e4⟩ := c.nn j o' ho' hEj hdj (fun x => hl (.inl x))
        refine ⟨tq', hh', e1, e2, e3, fun hk3 hw => ?_⟩
        have hb : b j < h1.next := by
          rcases e3 with ⟨_, ⟨hk, _⟩ | ⟨_, al, mk, _, hb, _⟩⟩ | ⟨hw', _⟩
          · omega
          · exact hb
          · rw [hw] at hw'; cases hw'
        exact hkeep j o' ho' (fun e => hl (.inr e)) hEj hdj hb (e4 hk3 hw)
    rcases q3 with ⟨hw, ⟨hk12, v, hv, hd⟩ | ⟨hk3, al, mk, hal, hb1, hb2, hd⟩⟩ | ⟨hw, hd⟩
    · rw [if_pos (by rw [← hwq]; exact hw)]
      have hvS : ∃ v, aVal P n tS h1 o.op = some v ∧ ∀ d, o.dst = some d → vt t1 d = v := by
        rcases hk12 with hk | hk
        · exact ⟨v, by rw [← aVal_congr aS, ← hv]; exact aVal_pure hk, hd⟩
        · obtain ⟨v2, hv2, hd2⟩ := k2 i o ho hk hdone hun (by rw [hw1, ← hwq]; exact hw)
          have a1S : ∀ s, s ∈ slots o.op → s < n → vt t1 s = vt tS s := by
            intro s hs hsn
            by_cases e : ∃ j, j ∈ edgesOf o ∧ dstAt ops j = some s
            · obtain ⟨j, hj, hdj⟩ := e
              exact (wS s j hsn (hrd j hj) hdj).symm
            · have hno : ∀ j, j ∈ edgesOf o → dstAt ops j ≠ some s := fun j hj hdj => e ⟨j, hj, hdj⟩
              rw [noedge s hs hsn hno]
              refine c.tt s (fun j hdj _ => ?_)
              rcases sp.slot i o s j ho hs hdj with h5 | h5
              · exact hno j h5 hdj
              · exact h5.2 hk
          exact ⟨v2, by rw [← aVal_congr a1S]; exact hv2, hd2⟩
      obtain ⟨v, hvS⟩ := hvS
      obtain ⟨nx, w', φ', e1, e2, e3, e4⟩ := simN c.r fS hvS.1
      refine ⟨fun f _ => FW_fn q f, ?_⟩
      rw [FW_round, Oper.semAt_eq _ _ _ (opK_defer hk0), e1]
      cases e4 with
      | val hvv =>
        refine fin e2.le (c.nx.trans e2) e3 hvv hvS.2 (fun j o' _ _ _ _ hb hn' => (e2.ghost _ hn' hb).1)
    · rw [if_pos (by rw [← hwq]; exact hw)]
      have halS : aAl P n tS o.op = some (al, mk) := by rw [← aAl_congr aS]; exact hal
      obtain ⟨hok, x, hx, hrun⟩ := al_run fS halS
      have hnone := q4 hk3 hw
      obtain ⟨φ', le, e2, e3, e4⟩ := c.r.bindGhost hnone hb1 hb2 hok hx
      refine ⟨fun f _ => FW_fn q f, ?_⟩
      rw [FW_round, Oper.semAt_eq _ _ _ (opK_defer hk0), hrun]
      have nx' : Nx φ0 φ' h0 h1 := ⟨c.nx.le.trans le, c.nx.next, fun k hk hlt => by
        have := c.nx.ghost k hk hlt
        refine ⟨?_, this.2⟩
        rw [e3 k (fun e => ?_)]
        · exact this.1
        · subst e
          rcases c.bl i hi hE hdone with h5 | h5
          · omega
          · have := c.r.nx; omega⟩
      exact fin le nx' e4 (Mk.rel hok e2) hd (fun j o' ho' hji hEj hdj hb hn' => by
        rw [e3 (b j) (c.bb j i (Array.getElem?_eq_some_iff.1 ho').1 hi hEj hE hdj hdone hji)]; exact hn')
    · rw [if_neg (by rw [← hwq, hw]; simp)]
      refine ⟨fun f _ => FW_fn q f, fin (Le.refl φ) c.nx c.r .undef hd (fun j o' _ _ _ _ _ hn' => hn')⟩
  | true =>
    have hL : ls.getD i 0 = L := by
      rcases Nat.lt_or_ge (ls.getD i 0) L with h5 | h5
      · exact (hun (c.ed i hi hE (.inl h5))).elim
      · omega
    have uniq : ∀ j, j < ops.size → isE ops j = true → ls.getD j 0 = L → j = i := by
      intro j hj hEj hLj
      rcases Nat.lt_trichotomy j i with h5 | h5 | h5
      · have := sp.tot i j hi hE hEj h5; omega
      · exact h5
      · have := sp.tot j i hj hEj hE h5; omega
    have hfe : lvE ops ls L = some i := by
      unfold lvE
      cases hq : (List.range ops.size).find? (fun i => isE ops i && decide (ls.getD i 0 = L)) with
      | none =>
        have := List.find?_eq_none.1 hq i (List.mem_range.2 hi)
        rw [hE] at this
        simp only [Bool.true_and, decide_eq_true_eq] at this
        exact (this hL).elim
      | some e =>
        have h5 := List.find?_some hq
        have h6 := List.mem_of_find?_eq_some hq
        simp only [Bool.and_eq_true, decide_eq_true_eq] at h5
        rw [uniq e (List.mem_range.1 h6) h5.1 h5.2]
    unfold aCont at hcont
    rw [hfe] at hcont
    dsimp only at hcont
    rw [ho] at hcont
    dsimp only at hcont
    -- what an edge leads from
    have up : ∀ {j : Nat} {o' : Oper}, ops[j]? = some o' → i ∈ edgesOf o' → L < ls.getD j 0 := by
      intro j o' ho' hj
      have := (sp.edge j o' i ho' hj).2
      unfold step1 at this
      rw [hE] at this
      simp only [if_true] at this
      omega
    have aS : ∀ s, s ∈ slots o.op → s < n → vt t1 s = vt tS s := by
      intro s hs hsn
      by_cases e : ∃ j, j ∈ edgesOf o ∧ dstAt ops j = some s
      · obtain ⟨j, hj, hd⟩ := e
        exact (wS s j hsn (hrd j hj) hd).symm
      · have hno : ∀ j, j ∈ edgesOf o → dstAt ops j ≠ some s := fun j hj hd => e ⟨j, hj, hd⟩
        rw [noedge s hs hsn hno]
        refine c.tt s (fun j hdj hdone => ?_)
        rcases sp.slot i o s j ho hs hdj with h5 | h5
        · exact hno j h5 hdj
        · have hjo : ops[j]? = some (ops[j]'(dstAt_lt hdj)) := Array.getElem?_eq_getElem (dstAt_lt hdj)
          have h6 := h5.1
          unfold edgeTo at h6
          rw [hjo] at h6
          have := up hjo (by simpa using h6)
          rcases hdone with h7 | h7 <;> omega
    have hw1 : aWant n t1 ops o = aWant n tS ops o := aWant_congr (fun s hg hsn => (gS s hg hsn).symm)
    have hcl' : ∀ (j : Nat) (o' : Oper), (lst j ∨ j = i) → ops[j]? = some o' → ∀ k, k ∈ edgesOf o' → (lst k ∨ k = i) := by
      intro j o' hl ho' k hk
      rcases hl with hl | hl
      · exact .inl (hcl j o' hl ho' k hk)
      · subst hl
        rw [ho] at ho'; cases ho'
        exact .inl (hrd k hk)
    have fin : ∀ {v v' : Value} {w' : World} {φ' : Phi} {h2 : AH} {t2 : T Value} {k' : Nat} {lo2 : List (T Value × AH)}, Nx φ φ' h1 h2 → R w0 φ' h2 w' → VR φ' v v' → aPut n t1 o.dst v = some t2 →
        aLv P call n ops ls ms k' (L + 1) ((seen ++ lvN ops ls L).filter fun j => !(ms.getD i 0).testBit j) t2 h2 = some lo2 → (∀ x, x ∈ lo2 → x ∈ l) → K (a.put o.dst v') w' := by
      intro v v' w' φ' h2 t2 k' lo2 nx r hv hput hlv hsub2
      have hvt := vt_put hput hn
      obtain ⟨p1, p2, p3, p4⟩ := c.put nx.le ho hv (t2 := t2) (fun s hs => by rw [hvt, if_neg hs]) (fun d hd => by rw [hvt, if_pos hd])
      have other : ∀ s j, dstAt ops j = some s → j ≠ i → vt t2 s = vt t1 s := fun s j hd hji => by
        rw [hvt, if_neg (fun e => hji ((sp.dst i s (by rw [hdi]; exact e)).2 j hd))]
      have lev_of : ∀ j, isE ops j = false → ls.getD j 0 < L + 1 → (ls.getD j 0 < L ∨ (isE ops j = false ∧ ls.getD j 0 = L)) := fun j hEj hj => by
        rcases Nat.lt_or_ge (ls.getD j 0) L with h5 | h5
        · exact .inl h5
        · exact .inr ⟨hEj, by omega⟩
      refine hK _ _ (enter_inv sp hn (b := b) ⟨fun j hj hl => ?_, fun j hj hEj hdj => ?_, r, c.nx.trans nx, p1, p2, p3, p4, fun s hs => ?_, fun j o' ho' hEj hdj hl => ?_, fun j j2 hj hj2 hEj hEj2 hd hd2 hne => c.bb j j2 hj hj2 hEj hEj2 (lev_of j hEj hd) (lev_of j2 hEj2 hd2) hne, fun j hj hEj hd => ?_, fun j o' ho' hkj hdj hl => ?_⟩ hlv hsub2)
      · rcases hl with hl | hl
        · rcases c.ld j hj hl with h5 | h5 <;> omega
        · subst hl; omega
      · by_cases e : j = i
        · exact .inr e
        · refine .inl (c.ed j hj hEj (.inl ?_))
          rcases Nat.lt_or_ge (ls.getD j 0) L with h5 | h5
          · exact h5
          · exact (e (uniq j hj hEj (by omega))).elim
      · rw [hvt, if_neg (fun e => hs i (by rw [hdi]; exact e) (by omega))]
        exact c.tt s (fun j hd hdone => hs j hd (by rcases hdone with h5 | h5 <;> omega))
      · have hji : j ≠ i := fun e => hl (.inr e)
        have hlv' := lev_of j hEj hdj
        obtain ⟨tq, hh, e1, e2, e3, e4⟩ := c.nn j o' ho' hEj hlv' (fun x => hl (.inl x))
        have notedge : i ∉ edgesOf o' := fun hin => by have := up ho' hin; rcases hlv' with h5 | h5 <;> omega
        have hdst : ∀ d, o'.dst = some d → vt t2 d = vt t1 d := fun d hd => other d j (by rw [dstAt_eq ho']; exact hd) hji
        refine ⟨tq, hh, fun s hs => ⟨fun k hk hd => ?_, (e1 s hs).2⟩, fun s hg => ?_, ?_, fun hk3 hw => ?_⟩
        · rw [(e1 s hs).1 k hk hd, other s k hd (fun e => notedge (e ▸ hk))]
        · rw [e2 s hg]
          unfold gslot at hg
          cases hq : o'.guard with
          | none => rw [hq] at hg; cases hg
          | some p =>
            obtain ⟨g, y⟩ := p
            rw [hq] at hg
            exact (other s g hg (fun e => notedge (e ▸ sp.guard j o' g y ho' hq))).symm
        · rcases e3 with ⟨hw, ⟨hk, v3, hv3, hd⟩ | ⟨hk, al, mk, hal, hb1, hb2, hd⟩⟩ | ⟨hw, hd⟩
          · exact .inl ⟨hw, .inl ⟨hk, v3, hv3, fun d hd' => by rw [hdst d hd', hd d hd']⟩⟩
          · have hg := nx.ghost (b j) (e4 hk hw) hb1
            exact .inl ⟨hw, .inr ⟨hk, al, mk, hal, Nat.lt_of_lt_of_le hb1 nx.next, by rw [hg.2]; exact hb2, fun d hd' => by rw [hdst d hd', hd d hd']⟩⟩
          · exact .inr ⟨hw, fun d hd' => by rw [hdst d hd', hd d hd']⟩
        · have hb : b j < h1.next := by
            rcases e3 with ⟨_, ⟨hk, _⟩ | ⟨_, al, mk, _, hb, _⟩⟩ | ⟨hw', _⟩
            · omega
            · exact hb
            · rw [hw] at hw'; cases hw'
          exact (nx.ghost (b j) (e4 hk3 hw) hb).1
      · rcases c.bl j hj hEj (lev_of j hEj hd) with h5 | h5
        · exact .inl ⟨h5.1, Nat.lt_of_lt_of_le h5.2 nx.next⟩
        · exact .inr h5
      · have hEj : isE ops j = false := by rw [isE_of ho', hkj]; rfl
        refine List.mem_filter.2 ⟨c.sn j o' ho' hkj (lev_of j hEj hdj) (fun x => hl (.inl x)), ?_⟩
        cases hbit : (ms.getD i 0).testBit j with
        | false => rfl
        | true => exact (hl (mask_listed sp hcl' i j (.inr rfl) hi hbit)).elim
    by_cases hw : aWant n t1 ops o = true
    · rw [if_pos hw] at hcont
      rw [if_pos (by rw [← hw1]; exact hw)]
      obtain ⟨l0, hl0, hall⟩ := bindL_spec hcont
      refine step_ok hN hc c.r fS (l := l0) (by rw [← aStep_congr aS]; exact hl0) ?_
      intro v h2 v' w' φ' hm nx r hv
      obtain ⟨k3, hk3, hsub3⟩ := hall _ hm
      dsimp only at hk3
      split at hk3
      · rename_i t2 hput
        exact fin nx r hv hput hk3 (fun x hx => hsub x (hsub3 x hx))
      · cases hk3
    · rw [if_neg hw] at hcont
      rw [if_neg (by rw [← hw1]; exact hw)]
      split at hcont
      · rename_i t2 hput
        exact ⟨fun f _ => FW_fn q f, fin (.refl φ h1) c.r .undef hput hcont hsub⟩
      · cases hcont
end
end Go.X
