/- The closed evaluator, part M: regions that draw their order: the plan; operations that nothing waits for. -/
import Derived.Test.YtdaedcoolcicoaaXL
namespace Go.X
noncomputable section
open Go Go.RowKit
variable {w0 w w' : World} {φ φ' : Phi} {h h' : AH} {P : Program} {n : Nat} {t t' : T Value} {ops : Array Oper} {ls ms : List Nat}

structure PlanSpec (n : Nat) (ops : Array Oper) (ls ms : List Nat) : Prop where
  edge : ∀ (i : Nat) (o : Oper) (j : Nat), ops[i]? = some o → j ∈ edgesOf o → j < i ∧ step1 ops ls j ≤ ls.getD i 0
  att : ∀ (i : Nat) (o : Oper), ops[i]? = some o → ls.getD i 0 = 0 ∨ ∃ j, j ∈ edgesOf o ∧ step1 ops ls j = ls.getD i 0
  tot : ∀ (i j : Nat), i < ops.size → isE ops i = true → isE ops j = true → j < i → ls.getD j 0 < ls.getD i 0
  dst : ∀ (i d : Nat), dstAt ops i = some d → d < n ∧ ∀ j, dstAt ops j = some d → j = i
  slot : ∀ (i : Nat) (o : Oper) (s j : Nat), ops[i]? = some o → s ∈ slots o.op → dstAt ops j = some s → j ∈ edgesOf o ∨ (edgeTo ops j i = true ∧ opK o.op ≠ 2)
  guard : ∀ (i : Nat) (o : Oper) (g : Nat) (b : Bool), ops[i]? = some o → o.guard = some (g, b) → g ∈ edgesOf o
  mask : ∀ (i : Nat) (o : Oper), ops[i]? = some o → ms.getD i 0 = orL ((edgesOf o).map fun j => 2 ^ j ||| ms.getD j 0)
theorem dstAt_lt {i d : Nat} (hd : dstAt ops i = some d) : i < ops.size := by
  unfold dstAt at hd
  cases ho : ops[i]? with
  | none => rw [ho] at hd; cases hd
  | some o => exact (Array.getElem?_eq_some_iff.1 ho).1
theorem dstAt_eq {i : Nat} {o : Oper} (ho : ops[i]? = some o) : dstAt ops i = o.dst := by unfold dstAt; rw [ho]; rfl
theorem plan_spec (hp : planOk n ops ls ms = true) : PlanSpec n ops ls ms := by
  unfold planOk at hp
  rw [List.all_eq_true] at hp
  have key : ∀ (i : Nat) (o : Oper), ops[i]? = some o → opOk n ops ls ms i = true := fun i o ho => hp i (List.mem_range.2 (Array.getElem?_eq_some_iff.1 ho).1)
  have un : ∀ (i : Nat) (o : Oper), ops[i]? = some o → _ := fun i o ho => by
    have := key i o ho
    unfold opOk at this
    rw [ho] at this
    simp only [Bool.and_eq_true] at this
    exact this
  refine ⟨fun i o j ho hj => ?_, fun i o ho => ?_, fun i j hi hE hE' hlt => ?_, fun i d hd => ?_, fun i o s j ho hs hd => ?_, fun i o g b ho hg => ?_, fun i o ho => ?_⟩
  · obtain ⟨⟨⟨⟨⟨⟨h1, h2⟩, h3⟩, h4⟩, h5⟩, h6⟩, h7⟩ := un i o ho
    have := List.all_eq_true.1 h1 j hj
    simpa using this
  · obtain ⟨⟨⟨⟨⟨⟨h1, h2⟩, h3⟩, h4⟩, h5⟩, h6⟩, h7⟩ := un i o ho
    simp only [Bool.or_eq_true, decide_eq_true_eq, List.any_eq_true] at h2
    exact h2
  · have ho : ops[i]? = some ops[i] := Array.getElem?_eq_getElem hi
    obtain ⟨⟨⟨⟨⟨⟨h1, h2⟩, h3⟩, h4⟩, h5⟩, h6⟩, h7⟩ := un i _ ho
    rw [hE] at h3
    simp only [Bool.not_true, Bool.false_or, List.all_eq_true] at h3
    have := h3 j (List.mem_range.2 hlt)
    rw [hE'] at this
    simpa using this
  · have hi := dstAt_lt hd
    have ho : ops[i]? = some ops[i] := Array.getElem?_eq_getElem hi
    obtain ⟨⟨⟨⟨⟨⟨h1, h2⟩, h3⟩, h4⟩, h5⟩, h6⟩, h7⟩ := un i _ ho
    rw [dstAt_eq ho] at hd
    rw [hd] at h4
    simp only [Bool.and_eq_true, decide_eq_true_eq, List.all_eq_true] at h4
    refine ⟨h4.1, fun j hj => ?_⟩
    have := h4.2 j (List.mem_range.2 (dstAt_lt hj))
    rw [hj] at this
    simpa using this
  · obtain ⟨⟨⟨⟨⟨⟨h1, h2⟩, h3⟩, h4⟩, h5⟩, h6⟩, h7⟩ := un i o ho
    have := List.all_eq_true.1 (List.all_eq_true.1 h5 s hs) j (List.mem_range.2 (dstAt_lt hd))
    rw [hd] at this
    simp only [bne_self_eq_false, Bool.false_or, Bool.or_eq_true, Bool.and_eq_true, decide_eq_true_eq] at this
    rcases this with h8 | h8
    · left
      unfold edgeTo at h8
      rw [ho] at h8
      simpa using h8
    · exact .inr h8
  · obtain ⟨⟨⟨⟨⟨⟨h1, h2⟩, h3⟩, h4⟩, h5⟩, h6⟩, h7⟩ := un i o ho
    rw [hg] at h6
    simpa using h6
  · obtain ⟨⟨⟨⟨⟨⟨h1, h2⟩, h3⟩, h4⟩, h5⟩, h6⟩, h7⟩ := un i o ho
    simpa using h7
theorem testBit_orL {l : List Nat} {i : Nat} (hb : (orL l).testBit i = true) : ∃ x, x ∈ l ∧ x.testBit i = true := by
  induction l with
  | nil => simp [orL] at hb
  | cons x l ih =>
    simp only [orL, Nat.testBit_or, Bool.or_eq_true] at hb
    rcases hb with hb | hb
    · exact ⟨x, by simp, hb⟩
    · obtain ⟨y, h1, h2⟩ := ih hb; exact ⟨y, by simp [h1], h2⟩
/-- Whoever comes ahead of one that is listed is listed. -/
theorem mask_listed (sp : PlanSpec n ops ls ms) {L : Nat → Prop} (hcl : ∀ (i : Nat) (o : Oper), L i → ops[i]? = some o → ∀ j, j ∈ edgesOf o → L j) : ∀ (i k : Nat), L i → i < ops.size → (ms.getD i 0).testBit k = true → L k := by
  intro i
  induction i using Nat.strongRecOn with
  | _ i ih =>
    intro k hi hlt hb
    have ho : ops[i]? = some ops[i] := Array.getElem?_eq_getElem hlt
    rw [sp.mask i _ ho] at hb
    obtain ⟨x, hx, hxb⟩ := testBit_orL hb
    obtain ⟨j, hj, rfl⟩ := List.mem_map.1 hx
    have hji := (sp.edge i _ j ho hj).1
    have hLj := hcl i _ hi ho j hj
    rw [Nat.testBit_or, Bool.or_eq_true] at hxb
    rcases hxb with h1 | h1
    · rw [Nat.testBit_two_pow] at h1
      have : j = k := by simpa using h1
      subst this; exact hLj
    · exact ih j hji k hLj (by omega) h1

/-! Operations that nothing waits for. -/
def aN (P : Program) (n : Nat) (t : T Value) (h : AH) (o : Op) : Option (Value × AH) :=
  if opK o = 3 then (match aAl P n t o with
    | some (al, mk) => (match h.newAl al with
      | some (b, h') => some (mk.val b, h')
      | none => none)
    | none => none)
  else if opK o = 0 then none else (match aVal P n t h o with
    | some v => some (v, h)
    | none => none)
def aNs (P : Program) (n : Nat) (ops : Array Oper) : List Nat → T Value → AH → Option (T Value × AH)
  | [], t, h => some (t, h)
  | i :: r, t, h => match ops[i]? with
    | none => none
    | some o => if aWant n t ops o then (match aN P n t h o.op with
        | some (v, h') => (match aPut n t o.dst v with
          | some t' => aNs P n ops r t' h'
          | none => none)
        | none => none)
      else (match aPut n t o.dst undef with
        | some t' => aNs P n ops r t' h
        | none => none)
theorem vt_put {d : Option Tmp} {v : Value} (hs : aPut n t d v = some t') (hn : n ≤ T.top) (s : Nat) : vt t' s = if d = some s then v else vt t s := by
  rw [aPut_eq] at hs
  cases d with
  | none => cases hs; simp
  | some d =>
    dsimp only at hs
    split at hs
    · rename_i hd
      cases hs
      unfold vt
      rw [T.get_set (Nat.lt_of_lt_of_le hd hn)]
      by_cases e : s = d
      · subst e; simp
      · rw [if_neg e, if_neg (by intro x; cases x; exact e rfl)]
    · cases hs
/-- What is known of an operation that has been taken: on which frame and heap, and what it gave. -/
def NFact (P : Program) (n : Nat) (ops : Array Oper) (o : Oper) (tt : T Value) (hh : AH) (t1 : T Value) (h1 : AH) (b : Nat) : Prop :=
  (aWant n tt ops o = true ∧ (((opK o.op = 1 ∨ opK o.op = 2) ∧ ∃ v, aVal P n tt hh o.op = some v ∧ ∀ d, o.dst = some d → vt t1 d = v) ∨
    (opK o.op = 3 ∧ ∃ al mk, aAl P n tt o.op = some (al, mk) ∧ b < h1.next ∧ h1.m.get b = some al.obj ∧ ∀ d, o.dst = some d → vt t1 d = mk.val b))) ∨
  (aWant n tt ops o = false ∧ ∀ d, o.dst = some d → vt t1 d = undef)
theorem opK_le (o : Op) : opK o ≤ 3 := by unfold opK; split <;> omega
theorem aNs_spec (sp : PlanSpec n ops ls ms) (hn : n ≤ T.top) : ∀ (r : List Nat) {t : T Value} {h : AH} {t1 : T Value} {h1 : AH}, r.Pairwise (· < ·) → aNs P n ops r t h = some (t1, h1) → h.next ≤ T.top →
    (h.next ≤ h1.next ∧ h1.next ≤ T.top ∧ ∀ b, b < h.next → h1.m.get b = h.m.get b) ∧
    (∀ s, (∀ i, i ∈ r → dstAt ops i ≠ some s) → vt t1 s = vt t s) ∧
    ∃ b : Nat → Nat, (∀ i, i ∈ r → ((h.next ≤ b i ∧ b i < h1.next) ∨ b i = T.top + 1 + i) ∧ ∃ o tt hh, ops[i]? = some o ∧ (∀ s, (∀ j, j ∈ r → j < i → dstAt ops j ≠ some s) → vt tt s = vt t s) ∧
      (∀ s j, j ∈ r → j < i → dstAt ops j = some s → vt tt s = vt t1 s) ∧ NFact P n ops o tt hh t1 h1 (b i)) ∧ (∀ i j, i ∈ r → j ∈ r → i ≠ j → b i ≠ b j)
  | [], t, h, t1, h1, _, hs, ht => by
    simp only [aNs] at hs; cases hs
    exact ⟨⟨Nat.le_refl _, ht, fun _ _ => rfl⟩, fun _ _ => rfl, fun _ => 0, fun i hi => by simp at hi, fun i j hi => by simp at hi⟩
  | i :: r, t, h, t1, h1, hpw, hs, ht => by
    simp only [aNs] at hs
    have hpw' := List.pairwise_cons.1 hpw
    cases ho : ops[i]? with
    | none => rw [ho] at hs; cases hs
    | some o =>
      rw [ho] at hs
      dsimp only at hs
      have hdi := dstAt_eq ho
      -- the rest, from what the first leaves
      have rest : ∀ {v : Value} {t2 : T Value} {h2 : AH} {bi : Nat}, aPut n t o.dst v = some t2 → aNs P n ops r t2 h2 = some (t1, h1) → h.next ≤ h2.next → h2.next ≤ T.top → (∀ b, b < h.next → h2.m.get b = h.m.get b) →
          ((h.next ≤ bi ∧ bi < h2.next) ∨ bi = T.top + 1 + i) → (∀ t1 h1, (∀ d, o.dst = some d → vt t1 d = v) → h2.next ≤ h1.next → (∀ b, b < h2.next → h1.m.get b = h2.m.get b) → NFact P n ops o t h t1 h1 bi) →
          (h.next ≤ h1.next ∧ h1.next ≤ T.top ∧ ∀ b, b < h.next → h1.m.get b = h.m.get b) ∧
          (∀ s, (∀ k, k ∈ i :: r → dstAt ops k ≠ some s) → vt t1 s = vt t s) ∧
          ∃ b : Nat → Nat, (∀ k, k ∈ i :: r → ((h.next ≤ b k ∧ b k < h1.next) ∨ b k = T.top + 1 + k) ∧ ∃ o tt hh, ops[k]? = some o ∧ (∀ s, (∀ j, j ∈ i :: r → j < k → dstAt ops j ≠ some s) → vt tt s = vt t s) ∧
            (∀ s j, j ∈ i :: r → j < k → dstAt ops j = some s → vt tt s = vt t1 s) ∧ NFact P n ops o tt hh t1 h1 (b k)) ∧ (∀ k j, k ∈ i :: r → j ∈ i :: r → k ≠ j → b k ≠ b j) := by
        intro v t2 h2 bi hput hrest hle ht2 hget hbi hfact
        have hv := vt_put hput hn
        obtain ⟨⟨a1, a2, a3⟩, a4, b, a5, a6⟩ := aNs_spec sp hn r hpw'.2 hrest ht2
        have hdst : ∀ d, o.dst = some d → vt t1 d = v := by
          intro d hd
          rw [a4 d (fun k hk hkd => by
            have := (sp.dst i d (by rw [hdi]; exact hd)).2 k hkd
            have := hpw'.1 k hk
            omega), hv, if_pos hd]
        refine ⟨⟨Nat.le_trans hle a1, a2, fun b hb => (a3 b (by omega)).trans (hget b hb)⟩, fun s hs => ?_, fun k => if k = i then bi else b k, fun k hk => ?_, fun k j hk hj hkj => ?_⟩
        · rw [a4 s (fun k hk => hs k (List.mem_cons_of_mem _ hk)), hv, if_neg (fun e => hs i (by simp) (by rw [hdi]; exact e))]
        · by_cases e : k = i
          · subst e
            simp only [if_true]
            refine ⟨?_, o, t, h, ho, fun s _ => rfl, fun s j hj hlt hd => ?_, hfact t1 h1 hdst a1 a3⟩
            · rcases hbi with hbi | hbi
              · exact .inl ⟨hbi.1, by omega⟩
              · exact .inr hbi
            · rcases List.mem_cons.1 hj with hj | hj
              · omega
              · have := hpw'.1 j hj; omega
          · have hkr : k ∈ r := by rcases List.mem_cons.1 hk with hk | hk; exact (e hk).elim; exact hk
            dsimp only
            rw [if_neg e]
            obtain ⟨c1, o', tt, hh, c2, c3, c4, c5⟩ := a5 k hkr
            refine ⟨by rcases c1 with c1 | c1; exact .inl ⟨by omega, c1.2⟩; exact .inr c1, o', tt, hh, c2, fun s hs => ?_, fun s j hj hlt hd => ?_, c5⟩
            · rw [c3 s (fun j hj hlt => hs j (List.mem_cons_of_mem _ hj) hlt), hv, if_neg (fun e2 => hs i (by simp) (hpw'.1 k hkr) (by rw [hdi]; exact e2))]
            · rcases List.mem_cons.1 hj with hj | hj
              · subst hj
                have hod : o.dst = some s := by rw [← hdi]; exact hd
                rw [c3 s (fun j2 hj2 _ hd2 => by
                  have := (sp.dst j s hd).2 j2 hd2
                  have := hpw'.1 j2 hj2
                  omega), hv, if_pos hod, hdst s hod]
              · exact c4 s j hj hlt hd
        · dsimp only
          by_cases e : k = i
          · by_cases e2 : j = i
            · exact (hkj (e.trans e2.symm)).elim
            · have hjr : j ∈ r := by rcases List.mem_cons.1 hj with hj | hj; exact (e2 hj).elim; exact hj
              rw [if_pos e, if_neg e2]
              have c1 := (a5 j hjr).1
              have := hpw'.1 j hjr
              rcases hbi with hbi | hbi <;> rcases c1 with c1 | c1 <;> omega
          · have hkr : k ∈ r := by rcases List.mem_cons.1 hk with hk | hk; exact (e hk).elim; exact hk
            rw [if_neg e]
            by_cases e2 : j = i
            · rw [if_pos e2]
              have c1 := (a5 k hkr).1
              have := hpw'.1 k hkr
              rcases hbi with hbi | hbi <;> rcases c1 with c1 | c1 <;> omega
            · have hjr : j ∈ r := by rcases List.mem_cons.1 hj with hj | hj; exact (e2 hj).elim; exact hj
              rw [if_neg e2]
              exact a6 k j hkr hjr hkj
      split at hs
      · rename_i hw
        split at hs
        · rename_i v h2 hN
          split at hs
          · rename_i t2 hput
            unfold aN at hN
            split at hN
            · rename_i hk
              split at hN
              · rename_i al mk hal
                split at hN
                · rename_i b h3 hna
                  cases hN
                  unfold AH.newAl at hna
                  split at hna
                  · rename_i hlt
                    cases hna
                    refine rest (bi := h.next) hput hs (Nat.le_succ _) hlt (fun b hb => ?_) (.inl ⟨Nat.le_refl _, Nat.lt_succ_self _⟩) (fun t1 h1 hd hle hg => .inl ⟨hw, .inr ⟨hk, al, mk, hal, Nat.lt_of_lt_of_le (Nat.lt_succ_self _) hle, ?_, hd⟩⟩)
                    · show (h.m.set h.next (some al.obj)).get b = _
                      rw [T.get_set hlt, if_neg (by omega)]
                    · rw [hg h.next (Nat.lt_succ_self _)]
                      show (h.m.set h.next (some al.obj)).get h.next = _
                      rw [T.get_set hlt, if_pos rfl]
                  · cases hna
                · cases hN
              · cases hN
            · rename_i hk
              split at hN
              · cases hN
              · rename_i hk0
                split at hN
                · rename_i v' hv
                  cases hN
                  have hk12 : opK o.op = 1 ∨ opK o.op = 2 := by have := opK_le o.op; omega
                  exact rest (bi := T.top + 1 + i) hput hs (Nat.le_refl _) ht (fun _ _ => rfl) (.inr rfl) (fun t1 h1 hd _ _ => .inl ⟨hw, .inl ⟨hk12, _, hv, hd⟩⟩)
                · cases hN
          · cases hs
        · cases hs
      · rename_i hw
        split at hs
        · rename_i t2 hput
          exact rest (bi := T.top + 1 + i) hput hs (Nat.le_refl _) ht (fun _ _ => rfl) (.inr rfl) (fun t1 h1 hd _ _ => .inr ⟨by simpa using hw, hd⟩)
        · cases hs
end
end Go.X
