/- The closed evaluator, part N: regions that draw their order: levels. -/
import Derived.Test.YtdaedcoolcicoaaXM
namespace Go.X
noncomputable section
open Go Go.RowKit
variable {w0 w w' : World} {φ φ' φ0 : Phi} {h h' h0 h1 h2 : AH} {P : Program} {n : Nat} {t t' tb t1 t2 : T Value} {ops : Array Oper} {ls ms : List Nat}

def lvN (ops : Array Oper) (ls : List Nat) (L : Nat) : List Nat := (List.range ops.size).filter fun i => !isE ops i && decide (ls.getD i 0 = L)
def lvE (ops : Array Oper) (ls : List Nat) (L : Nat) : Option Nat := (List.range ops.size).find? fun i => isE ops i && decide (ls.getD i 0 = L)
def recheck (P : Program) (n : Nat) (ops : Array Oper) (l : List Nat) (t : T Value) (h : AH) : Bool := l.all fun i => match ops[i]? with
  | none => true
  | some o => if opK o.op = 2 then (if aWant n t ops o then (match aVal P n t h o.op, o.dst with
      | some v, some d => veq 9 v (vt t d)
      | some _, none => true
      | none, _ => false) else true) else true
def aCont (P : Program) (call : Call1) (n : Nat) (ops : Array Oper) (ls ms : List Nat) (rec : Nat → List Nat → T Value → AH → Option (List (T Value × AH))) (L : Nat) (seen : List Nat) (t : T Value) (h : AH) : Option (List (T Value × AH)) :=
  match lvE ops ls L with
  | none => some [(t, h)]
  | some e => match ops[e]? with
    | none => none
    | some o => if aWant n t ops o then bindL (aStep P call n t h o.op) fun p => (match aPut n t o.dst p.1 with
        | some t2 => rec (L + 1) ((seen ++ lvN ops ls L).filter fun i => !(ms.getD e 0).testBit i) t2 p.2
        | none => none)
      else (match aPut n t o.dst undef with
        | some t2 => rec (L + 1) ((seen ++ lvN ops ls L).filter fun i => !(ms.getD e 0).testBit i) t2 h
        | none => none)
def aLv (P : Program) (call : Call1) (n : Nat) (ops : Array Oper) (ls ms : List Nat) : Nat → Nat → List Nat → T Value → AH → Option (List (T Value × AH))
  | 0, _, _, _, _ => none
  | k + 1, L, seen, t, h => match aNs P n ops (lvN ops ls L) t h with
    | none => none
    | some (t1, h1) => if recheck P n ops (seen ++ lvN ops ls L) t1 h1 then aCont P call n ops ls ms (aLv P call n ops ls ms k) L seen t1 h1 else none
def aDraw (P : Program) (call : Call1) (n : Nat) (ops : Array Oper) (t : T Value) (h : AH) : Option (List (T Value × AH)) :=
  if planOk n ops (levL ops) (maskL ops) then aLv P call n ops (levL ops) (maskL ops) (ops.size + 1) 0 [] t h else none

/-- What holds while a region is under way: who is listed, who has been reckoned with, on which frame and heap. -/
structure Core (w0 : World) (P : Program) (n : Nat) (ops : Array Oper) (φ0 : Phi) (h0 : AH) (tb : T Value) (d0 : List Deferred) (done : Nat → Prop) (sn : List Nat) (t1 : T Value) (h1 : AH) (φ : Phi) (b : Nat → Nat)
    (lst : Nat → Prop) (a : Act) (w : World) : Prop where
  ld : ∀ i, i < ops.size → lst i → done i
  ed : ∀ i, i < ops.size → isE ops i = true → done i → lst i
  r : R w0 φ h1 w
  nx : Nx φ0 φ h0 h1
  size : a.tmps.size = n
  fw : ∀ s u j, a.tmps[s]? = some u → lst j → dstAt ops j = some s → VR φ (vt t1 s) u
  fb : ∀ s u, a.tmps[s]? = some u → (∀ j, lst j → dstAt ops j ≠ some s) → VR φ (vt tb s) u
  df : a.defers = d0
  tt : ∀ s, (∀ j, dstAt ops j = some s → ¬ done j) → vt t1 s = vt tb s
  nn : ∀ (i : Nat) (o : Oper), ops[i]? = some o → isE ops i = false → done i → ¬ lst i → ∃ q hh,
    (∀ s, s ∈ slots o.op → (∀ j, j ∈ edgesOf o → dstAt ops j = some s → vt q s = vt t1 s) ∧ ((∀ j, j ∈ edgesOf o → dstAt ops j ≠ some s) → vt q s = vt tb s)) ∧
    (∀ s, gslot ops o = some s → vt q s = vt t1 s) ∧ NFact P n ops o q hh t1 h1 (b i) ∧ (opK o.op = 3 → aWant n q ops o = true → φ (b i) = none)
  bb : ∀ i j, i < ops.size → j < ops.size → isE ops i = false → isE ops j = false → done i → done j → i ≠ j → b i ≠ b j
  bl : ∀ i, i < ops.size → isE ops i = false → done i → (h0.next ≤ b i ∧ b i < h1.next) ∨ b i = T.top + 1 + i
  sn : ∀ (i : Nat) (o : Oper), ops[i]? = some o → opK o.op = 2 → done i → ¬ lst i → i ∈ sn
theorem R.ghosts (r : R w0 φ h w) (hle : h.next ≤ h'.next) (ht : h'.next ≤ T.top) (hg : ∀ b, b < h.next → h'.m.get b = h.m.get b) : R w0 φ h' w := by
  have e : ∀ {b i}, φ b = some i → h'.m.get b = h.m.get b := fun hb => hg _ (r.lt _ _ hb).2
  exact ⟨fun b i o hi ho => r.dom b i o hi (by rw [← e hi]; exact ho), fun b i o hi ho => r.low b i o hi (by rw [← e hi]; exact ho),
    fun b b' i i' o o' hi hi' ho ho' => r.inj b b' i i' o o' hi hi' (by rw [← e hi]; exact ho) (by rw [← e hi']; exact ho'), fun b i hi => ⟨(r.lt b i hi).1, Nat.lt_of_lt_of_le (r.lt b i hi).2 hle⟩, ht, r.below⟩
theorem mem_lvN {i L : Nat} : i ∈ lvN ops ls L ↔ i < ops.size ∧ isE ops i = false ∧ ls.getD i 0 = L := by
  unfold lvN
  rw [List.mem_filter, List.mem_range]
  simp
theorem lvN_pw (L : Nat) : (lvN ops ls L).Pairwise (· < ·) := by
  unfold lvN
  exact List.Pairwise.filter _ List.pairwise_lt_range
theorem isE_of {i : Nat} {o : Oper} (ho : ops[i]? = some o) : isE ops i = (opK o.op == 0) := by unfold isE; rw [ho]
/-- Entering a level. -/
theorem enter_ok (sp : PlanSpec n ops ls ms) (hn : n ≤ T.top) {d0 : List Deferred} {L : Nat} {seen : List Nat} {b : Nat → Nat} {lst : Nat → Prop} {a : Act}
    (c : Core w0 P n ops φ0 h0 tb d0 (fun i => ls.getD i 0 < L) seen t h φ b lst a w) (hs : aNs P n ops (lvN ops ls L) t h = some (t1, h1)) (hr : recheck P n ops (seen ++ lvN ops ls L) t1 h1 = true) :
    ∃ b', Core w0 P n ops φ0 h0 tb d0 (fun i => ls.getD i 0 < L ∨ (isE ops i = false ∧ ls.getD i 0 = L)) (seen ++ lvN ops ls L) t1 h1 φ b' lst a w ∧
      ∀ (i : Nat) (o : Oper), ops[i]? = some o → opK o.op = 2 → (ls.getD i 0 < L ∨ (isE ops i = false ∧ ls.getD i 0 = L)) → ¬ lst i → aWant n t1 ops o = true → ∃ v, aVal P n t1 h1 o.op = some v ∧ ∀ d, o.dst = some d → vt t1 d = v := by
  obtain ⟨⟨a1, a2, a3⟩, a4, bn, a5, a6⟩ := aNs_spec sp hn _ (lvN_pw L) hs c.r.nx
  have keep : ∀ s j, dstAt ops j = some s → ls.getD j 0 ≠ L → vt t1 s = vt t s := fun s j hd hl => a4 s (fun i hi hdi => by
    have := (sp.dst j s hd).2 i hdi
    subst this
    exact hl (mem_lvN.1 hi).2.2)
  have none_t1 : ∀ s, (∀ j, dstAt ops j = some s → ¬ (ls.getD j 0 < L ∨ (isE ops j = false ∧ ls.getD j 0 = L))) → vt t1 s = vt tb s := fun s hs => by
    rw [a4 s (fun i hi hdi => hs i hdi (.inr (mem_lvN.1 hi).2)), c.tt s (fun j hd hl => hs j hd (.inl hl))]
  have gst : ∀ {i : Nat} {o : Oper} {s : Nat}, ops[i]? = some o → gslot ops o = some s → ∃ g, g ∈ edgesOf o ∧ dstAt ops g = some s := by
    intro i o s ho hg
    unfold gslot at hg
    cases hq : o.guard with
    | none => rw [hq] at hg; cases hg
    | some p =>
      obtain ⟨g, q⟩ := p
      rw [hq] at hg
      exact ⟨g, sp.guard i o g q ho hq, hg⟩
  -- an edge's writer has been taken before
  have edge_lt : ∀ {i : Nat} {o : Oper} {j : Nat}, ops[i]? = some o → j ∈ edgesOf o → j < i ∧ (ls.getD j 0 < ls.getD i 0 ∨ (isE ops j = false ∧ ls.getD j 0 ≤ ls.getD i 0)) := by
    intro i o j ho hj
    obtain ⟨e1, e2⟩ := sp.edge i o j ho hj
    refine ⟨e1, ?_⟩
    unfold step1 at e2
    cases hE : isE ops j with
    | true => rw [hE] at e2; simp only [if_true] at e2; left; omega
    | false => rw [hE] at e2; right; exact ⟨rfl, by simpa using e2⟩
  have fact : ∀ (i : Nat) (o : Oper), ops[i]? = some o → isE ops i = false → (ls.getD i 0 < L ∨ (isE ops i = false ∧ ls.getD i 0 = L)) → ¬ lst i → ∃ q hh,
      (∀ s, s ∈ slots o.op → (∀ j, j ∈ edgesOf o → dstAt ops j = some s → vt q s = vt t1 s) ∧ ((∀ j, j ∈ edgesOf o → dstAt ops j ≠ some s) → vt q s = vt tb s)) ∧
      (∀ s, gslot ops o = some s → vt q s = vt t1 s) ∧ NFact P n ops o q hh t1 h1 (if ls.getD i 0 = L then bn i else b i) ∧ (opK o.op = 3 → aWant n q ops o = true → φ (if ls.getD i 0 = L then bn i else b i) = none) := by
    intro i o ho hE hd hl
    have hdi := dstAt_eq ho
    by_cases hL : ls.getD i 0 = L
    · have hi : i ∈ lvN ops ls L := mem_lvN.2 ⟨(Array.getElem?_eq_some_iff.1 ho).1, hE, hL⟩
      obtain ⟨c1, o', q, hh, c2, c3, c4, c5⟩ := a5 i hi
      rw [ho] at c2; cases c2
      rw [if_pos hL]
      have edgew : ∀ s j, j ∈ edgesOf o → dstAt ops j = some s → vt q s = vt t1 s := by
        intro s j hj hds
        obtain ⟨e1, e2⟩ := edge_lt ho hj
        by_cases hjr : j ∈ lvN ops ls L
        · exact c4 s j hjr e1 hds
        · have hne : ls.getD j 0 ≠ L := fun e => by
            rcases e2 with e2 | e2
            · omega
            · exact hjr (mem_lvN.2 ⟨dstAt_lt hds, e2.1, e⟩)
          rw [keep s j hds hne]
          exact c3 s (fun j2 hj2 _ hd2 => by
            have := (sp.dst j s hds).2 j2 hd2
            subst this; exact hjr hj2)
      refine ⟨q, hh, fun s hs => ⟨fun j hj hds => edgew s j hj hds, fun hno => ?_⟩, fun s hg => ?_, c5, fun hk3 hw => ?_⟩
      · have hw : ∀ j, dstAt ops j = some s → i < j ∧ ls.getD i 0 ≤ ls.getD j 0 := by
          intro j hds
          rcases sp.slot i o s j ho hs hds with h5 | h5
          · exact (hno j h5 hds).elim
          · have hjo : ops[j]? = some (ops[j]'(dstAt_lt hds)) := Array.getElem?_eq_getElem (dstAt_lt hds)
            unfold edgeTo at h5
            rw [hjo] at h5
            have hji : i ∈ edgesOf (ops[j]'(dstAt_lt hds)) := by simpa using h5.1
            have := edge_lt hjo hji
            exact ⟨this.1, by rcases this.2 with h6 | h6 <;> omega⟩
        rw [c3 s (fun j _ hlt hds => by have := hw j hds; omega)]
        exact c.tt s (fun j hds hlt => by have := hw j hds; omega)
      · obtain ⟨g, hg1, hg2⟩ := gst ho hg
        exact edgew s g hg1 hg2
      · cases hφ : φ (bn i) with
        | none => rfl
        | some im =>
          have := (c.r.lt _ _ hφ).2
          have htop := c.r.nx
          rcases c1 with c1 | c1 <;> omega
    · have hlt : ls.getD i 0 < L := by rcases hd with hd | hd; exact hd; exact (hL hd.2).elim
      obtain ⟨q, hh, q1, q2, q3, q4⟩ := c.nn i o ho hE hlt hl
      rw [if_neg hL]
      have edgew : ∀ s j, j ∈ edgesOf o → dstAt ops j = some s → vt t1 s = vt t s := by
        intro s j hj hds
        have := edge_lt ho hj
        exact keep s j hds (by rcases this.2 with h6 | h6 <;> omega)
      refine ⟨q, hh, fun s hs => ⟨fun j hj hds => ?_, fun hno => (q1 s hs).2 hno⟩, fun s hg => ?_, ?_, q4⟩
      · rw [(q1 s hs).1 j hj hds, edgew s j hj hds]
      · obtain ⟨g, hg1, hg2⟩ := gst ho hg
        rw [q2 s hg, edgew s g hg1 hg2]
      · have hdst : ∀ d, o.dst = some d → vt t1 d = vt t d := fun d hd => keep d i (by rw [hdi]; exact hd) hL
        rcases q3 with ⟨hw, ⟨hk, v, hv, hd⟩ | ⟨hk, al, mk, hal, hb1, hb2, hd⟩⟩ | ⟨hw, hd⟩
        · exact .inl ⟨hw, .inl ⟨hk, v, hv, fun d hd' => by rw [hdst d hd', hd d hd']⟩⟩
        · exact .inl ⟨hw, .inr ⟨hk, al, mk, hal, by omega, by rw [a3 _ hb1]; exact hb2, fun d hd' => by rw [hdst d hd', hd d hd']⟩⟩
        · exact .inr ⟨hw, fun d hd' => by rw [hdst d hd', hd d hd']⟩
  refine ⟨fun i => if ls.getD i 0 = L then bn i else b i, ⟨fun i hi hl => .inl (c.ld i hi hl), fun i hi hE hd => ?_, c.r.ghosts a1 a2 a3, ?_, c.size, fun s u j hu hl hds => ?_, c.fb, c.df, none_t1, fact, fun i j hi hj hEi hEj hdi hdj hij => ?_, fun i hi hE hd => ?_, fun i o ho hk hd hl => ?_⟩, ?_⟩
  · rcases hd with hd | hd
    · exact c.ed i hi hE hd
    · rw [hE] at hd; cases hd.1
  · exact ⟨c.nx.le, Nat.le_trans c.nx.next a1, fun k hk hlt => ⟨(c.nx.ghost k hk hlt).1, (a3 k (Nat.lt_of_lt_of_le hlt c.nx.next)).trans (c.nx.ghost k hk hlt).2⟩⟩
  · have := c.ld j (dstAt_lt hds) hl
    rw [keep s j hds (by omega)]
    exact c.fw s u j hu hl hds
  · by_cases e1 : ls.getD i 0 = L
    · have hi' : i ∈ lvN ops ls L := mem_lvN.2 ⟨hi, hEi, e1⟩
      rw [if_pos e1]
      by_cases e2 : ls.getD j 0 = L
      · rw [if_pos e2]
        exact a6 i j hi' (mem_lvN.2 ⟨hj, hEj, e2⟩) hij
      · rw [if_neg e2]
        have c1 := (a5 i hi').1
        have c2 := c.bl j hj hEj (by rcases hdj with h5 | h5; exact h5; exact (e2 h5.2).elim)
        have htop := c.r.nx
        rcases c1 with c1 | c1 <;> rcases c2 with c2 | c2 <;> omega
    · rw [if_neg e1]
      have hi2 : ls.getD i 0 < L := by rcases hdi with h5 | h5; exact h5; exact (e1 h5.2).elim
      by_cases e2 : ls.getD j 0 = L
      · have hj' : j ∈ lvN ops ls L := mem_lvN.2 ⟨hj, hEj, e2⟩
        rw [if_pos e2]
        have c1 := (a5 j hj').1
        have c2 := c.bl i hi hEi hi2
        have htop := c.r.nx
        rcases c1 with c1 | c1 <;> rcases c2 with c2 | c2 <;> omega
      · rw [if_neg e2]
        exact c.bb i j hi hj hEi hEj hi2 (by rcases hdj with h5 | h5; exact h5; exact (e2 h5.2).elim) hij
  · by_cases e1 : ls.getD i 0 = L
    · rw [if_pos e1]
      have c1 := (a5 i (mem_lvN.2 ⟨hi, hE, e1⟩)).1
      rcases c1 with c1 | c1
      · exact .inl ⟨Nat.le_trans c.nx.next c1.1, c1.2⟩
      · exact .inr c1
    · rw [if_neg e1]
      rcases c.bl i hi hE (by rcases hd with h5 | h5; exact h5; exact (e1 h5.2).elim) with c2 | c2
      · exact .inl ⟨c2.1, Nat.lt_of_lt_of_le c2.2 a1⟩
      · exact .inr c2
  · rcases hd with hd | hd
    · exact List.mem_append_left _ (c.sn i o ho hk hd hl)
    · exact List.mem_append_right _ (mem_lvN.2 ⟨(Array.getElem?_eq_some_iff.1 ho).1, hd⟩)
  · intro i o ho hk hd hl hw
    have hin : i ∈ seen ++ lvN ops ls L := by
      rcases hd with hd | hd
      · exact List.mem_append_left _ (c.sn i o ho hk hd hl)
      · exact List.mem_append_right _ (mem_lvN.2 ⟨(Array.getElem?_eq_some_iff.1 ho).1, hd⟩)
    have := List.all_eq_true.1 hr i hin
    rw [ho] at this
    dsimp only at this
    rw [if_pos hk, if_pos hw] at this
    cases hv : aVal P n t1 h1 o.op with
    | none => rw [hv] at this; simp at this
    | some v =>
      refine ⟨v, rfl, fun d hd => ?_⟩
      rw [hv, hd] at this
      exact (veq_eq 9 _ _ this).symm
end
end Go.X
