/- Parts of the closed evaluator. -/
import Derived.Test.YtjhbbdfbngbjcaaGreatDoorZb
namespace Go.X
noncomputable section
open Go Go.RowKit
variable {w0 w w' : World} {φ φ' φ0 : Phi} {h h' h0 h1 h2 : AH} {P : Program} {n : Nat} {t t' tb t1 t2 : T Value} {ops : Array Oper} {ls ms : List Nat}
theorem countF_set {l : Array Bool} {i : Nat} (h : l.getD i true = false) : ((l.setIfInBounds i true).toList.countP (fun b => !b)) + 1 = l.toList.countP (fun b => !b) := by
 have hi : i < l.size := by
  rcases Nat.lt_or_ge i l.size with h' | h'
  · exact h'
  · rw [Array.getD_eq_getD_getElem?, Array.getElem?_eq_none h'] at h; simp at h
 have he : l.toList[i]'(by simpa using hi) = false := by
  rw [Array.getD_eq_getD_getElem?, Array.getElem?_eq_getElem hi] at h
  simpa using h
 rw [Array.toList_setIfInBounds]
 exact aux _ i _ he
where
 aux : ∀ (m : List Bool) (i : Nat) (h : i < m.length), m[i] = false → (m.set i true).countP (fun b => !b) + 1 = m.countP (fun b => !b)
  | [], i, h, _ => by simp at h
  | b :: m, 0, _, he => by simp at he; subst he; simp
  | b :: m, i + 1, h, he => by
    simp only [List.set_cons_succ, List.countP_cons]
    have := aux m i (by simpa using h) (by simpa using he)
    omega
theorem R.bindGhost (r : R w0 φ h w) {b : Nat} {al : Al} {mk : Mk} {x : Obj} (hφ : φ b = none) (hlt : b < h.next) (hg : h.m.get b = some al.obj) (hk : al.ok mk = true) (ha : AlR φ al x) :
   ∃ φ', Le φ φ' ∧ φ' b = some (al.im w.heap.size) ∧ (∀ k, k ≠ b → φ' k = φ k) ∧ R w0 φ' h (w.alloc x) := by
 have hc : (al.im w.heap.size).c = w.heap.size := by cases al <;> rfl
 have le : Le φ (fun k => if k = b then some (al.im w.heap.size) else φ k) := by
   intro k j hj
   show (if k = b then _ else φ k) = some j
   rw [if_neg (fun e => by subst e; rw [hφ] at hj; cases hj)]; exact hj
 have hnew : (w.alloc x).heap[w.heap.size]? = some x := World.alloc_heap_new w x
 have r1 := r.allocW x
 refine ⟨fun k => if k = b then some (al.im w.heap.size) else φ k, le, if_pos rfl, fun k hk => if_neg hk, ?_⟩
 refine ⟨fun k j o hj ho => ?_, fun k j o hj ho hr => ?_, fun k k' j j' o o' hj hj' ho ho' hr hcc => ?_, fun k j hj => ?_, r.nx, r1.below⟩
 · by_cases e : k = b
   · subst e
     rw [if_pos rfl] at hj; cases hj
     rw [hg] at ho; cases ho
     exact AlR.or hk ha le hnew
   · rw [if_neg e] at hj
     exact (r1.dom k j o hj ho).mono le
 · by_cases e : k = b
   · subst e
     rw [if_pos rfl] at hj; cases hj
     rw [hc]; exact r.below.size
   · rw [if_neg e] at hj
     exact r1.low k j o hj ho hr
 · by_cases e : k = b
   · by_cases e' : k' = b
     · rw [e, e']
     · subst e
       rw [if_pos rfl] at hj; cases hj
       rw [if_neg e'] at hj'
       have := (r.lt k' j' hj').1
       omega
   · by_cases e' : k' = b
     · subst e'
       rw [if_pos rfl] at hj'; cases hj'
       rw [if_neg e] at hj
       have := (r.lt k j hj).1
       omega
     · rw [if_neg e] at hj
       rw [if_neg e'] at hj'
       exact r.inj k k' j j' o o' hj hj' ho ho' hr hcc
 · by_cases e : k = b
   · subst e
     rw [if_pos rfl] at hj; cases hj
     rw [hc]
     exact ⟨by simp, hlt⟩
   · rw [if_neg e] at hj
     exact r1.lt k j hj
theorem Core.frame {d0 : List Deferred} {done : Nat → Prop} {sn : List Nat} {b : Nat → Nat} {lst : Nat → Prop} {a : Act} (hn : T.Ok (n)) (c : Core w0 P n ops φ0 h0 tb d0 done sn t1 h1 φ b lst a w) :
   ∃ tS, FR φ n tS a.tmps ∧ (∀ s j, s < n → lst j → dstAt ops j = some s → vt tS s = vt t1 s) ∧ (∀ s, s < n → (∀ j, lst j → dstAt ops j ≠ some s) → vt tS s = vt tb s) := by
 classical
 let g : Nat → Value := fun s => if ∃ j, lst j ∧ dstAt ops j = some s then vt t1 s else vt tb s
 have hget : ∀ s, s < n → vt (T.fill ((List.range n).map g) 0 .e) s = g s := by
   intro s hs
   unfold vt
   rw [T.get_fill, if_pos (by simp; exact hs)]
   simp [hs]
 refine ⟨T.fill ((List.range n).map g) 0 .e, ⟨c.size, hn, fun s u hu => ?_⟩, fun s j hs hl hd => ?_, fun s hs hno => ?_⟩
 · have hs : s < n := by
     have := (Array.getElem?_eq_some_iff.1 hu).1
     rw [c.size] at this; exact this
   have := hget s hs
   unfold vt at this
   rw [this]
   show VR φ (if ∃ j, lst j ∧ dstAt ops j = some s then vt t1 s else vt tb s) u
   by_cases e : ∃ j, lst j ∧ dstAt ops j = some s
   · rw [if_pos e]
     obtain ⟨j, h1, h2⟩ := e
     exact c.fw s u j hu h1 h2
   · rw [if_neg e]
     exact c.fb s u hu (fun j hl hd => e ⟨j, hl, hd⟩)
 · rw [hget s hs]
   exact if_pos ⟨j, hl, hd⟩
 · rw [hget s hs]
   exact if_neg (fun ⟨j, h1, h2⟩ => hno j h1 h2)
theorem Core.put {d0 : List Deferred} {done : Nat → Prop} {sn : List Nat} {b : Nat → Nat} {lst : Nat → Prop} {a : Act} (c : Core w0 P n ops φ0 h0 tb d0 done sn t1 h1 φ b lst a w) (le : Le φ φ')
  {i : Nat} {o : Oper} (ho : ops[i]? = some o) {v v' : Value} (hv : VR φ' v v') {t2 : T Value} (h2 : ∀ s, o.dst ≠ some s → vt t2 s = vt t1 s) (h3 : ∀ d, o.dst = some d → vt t2 d = v) :
  (a.put o.dst v').tmps.size = n ∧ (∀ s u j, (a.put o.dst v').tmps[s]? = some u → (lst j ∨ j = i) → dstAt ops j = some s → VR φ' (vt t2 s) u) ∧
    (∀ s u, (a.put o.dst v').tmps[s]? = some u → (∀ j, (lst j ∨ j = i) → dstAt ops j ≠ some s) → VR φ' (vt tb s) u) ∧ (a.put o.dst v').defers = d0 := by
 have hdi := dstAt_eq ho
 cases hd : o.dst with
 | none =>
  refine ⟨c.size, fun s u j hu hl hds => ?_, fun s u hu hno => (c.fb s u hu (fun j hl => hno j (.inl hl))).mono le, c.df⟩
  rcases hl with hl | hl
  · rw [h2 s (by rw [hd]; simp)]; exact (c.fw s u j hu hl hds).mono le
  · subst hl; rw [hdi, hd] at hds; cases hds
 | some d =>
  have hsz : (a.tmps.setIfInBounds d v').size = n := by simp [c.size]
  refine ⟨hsz, fun s u j hu hl hds => ?_, fun s u hu hno => ?_, c.df⟩
  · have hu' : (a.tmps.setIfInBounds d v')[s]? = some u := hu
    rw [Array.getElem?_setIfInBounds] at hu'
    by_cases e : d = s
    · subst e
      rw [if_pos rfl] at hu'
      split at hu'
      · cases hu'; rw [h3 d hd]; exact hv
      · cases hu'
    · rw [if_neg e] at hu'
      have hji : j ≠ i := fun e2 => by subst e2; rw [hdi, hd] at hds; cases hds; exact e rfl
      rw [h2 s (by rw [hd]; intro x; cases x; exact e rfl)]
      exact (c.fw s u j hu' (hl.resolve_right hji) hds).mono le
  · have hu' : (a.tmps.setIfInBounds d v')[s]? = some u := hu
    rw [Array.getElem?_setIfInBounds] at hu'
    by_cases e : d = s
    · subst e; exact (hno i (.inr rfl) (by rw [hdi, hd])).elim
    · rw [if_neg e] at hu'
      exact (c.fb s u hu' (fun j hl => hno j (.inl hl))).mono le
end
end Go.X
namespace Go.X
noncomputable section
open Go Go.RowKit
variable {w0 w w' : World} {φ φ' φ0 : Phi} {h h' h0 h1 h2 : AH} {P : Program} {n : Nat} {t t' tb t1 t2 : T Value} {ops : Array Oper} {ls ms : List Nat}
theorem opK_defer {o : Op} (hk : opK o ≠ 0) : ∀ c, o ≠ .defer c := fun c e => by subst e; simp [opK] at hk
abbrev Ct := Nat → List Nat → T Value → AH → Prop
def Inv (w0 : World) (P : Program) (n : Nat) (ops : Array Oper) (ls : List Nat) (φ0 : Phi) (h0 : AH) (tb : T Value) (d0 : List Deferred) (C : Ct) (lst : Nat → Prop) (a : Act) (w : World) : Prop :=
 ∃ L seen t1 h1 φ b, C L seen t1 h1 ∧
  Core w0 P n ops φ0 h0 tb d0 (fun i => ls.getD i 0 < L ∨ (isE ops i = false ∧ ls.getD i 0 = L)) (seen ++ lvN ops ls L) t1 h1 φ b lst a w ∧
  ∀ (i : Nat) (o : Oper), ops[i]? = some o → opK o.op = 2 → (ls.getD i 0 < L ∨ (isE ops i = false ∧ ls.getD i 0 = L)) → ¬ lst i → aWant n t1 ops o = true → ∃ v, aVal P n t1 h1 o.op = some v ∧ ∀ d, o.dst = some d → vt t1 d = v
def Enter (P : Program) (n : Nat) (ops : Array Oper) (ls : List Nat) (C : Ct) : Ct := fun L seen t h => ∃ t1 h1, aNs P n ops (lvN ops ls L) t h = some (t1, h1) ∧ recheck P n ops (seen ++ lvN ops ls L) t1 h1 = true ∧ C L seen t1 h1
def CStep (P : Program) (call : Call1) (n : Nat) (ops : Array Oper) (ls ms : List Nat) (C C' : Ct) (i : Nat) (o : Oper) : Prop := ∀ L seen t1 h1, ls.getD i 0 = L → C L seen t1 h1 →
 (aWant n t1 ops o = true → ∃ l0, aStep P call n t1 h1 o.op = some l0 ∧ ∀ v h2, (v, h2) ∈ l0 → ∃ t2, aPut n t1 o.dst v = some t2 ∧ Enter P n ops ls C' (L + 1) ((seen ++ lvN ops ls L).filter fun j => !(ms.getD i 0).testBit j) t2 h2) ∧
 (aWant n t1 ops o = false → ∃ t2, aPut n t1 o.dst undef = some t2 ∧ Enter P n ops ls C' (L + 1) ((seen ++ lvN ops ls L).filter fun j => !(ms.getD i 0).testBit j) t2 h1)
theorem enter_inv (sp : PlanSpec n ops ls ms) (hn : T.Ok (n)) {C : Ct} {d0 : List Deferred} {L : Nat} {seen : List Nat} {b : Nat → Nat} {lst : Nat → Prop} {a : Act}
  (c : Core w0 P n ops φ0 h0 tb d0 (fun i => ls.getD i 0 < L) seen t h φ b lst a w) (hs : Enter P n ops ls C L seen t h) : Inv w0 P n ops ls φ0 h0 tb d0 C lst a w := by
 obtain ⟨t1, h1, hns, hr, hC⟩ := hs
 obtain ⟨b', c1, c2⟩ := enter_ok sp hn c hns hr
 exact ⟨L, seen, t1, h1, φ, b', hC, c1, c2⟩
def StepsOk (w0 : World) (P : Program) (call : Call1) (n : Nat) (ops : Array Oper) (φ0 : Phi) (h0 : AH) (tb : T Value) (d0 : List Deferred) (q : Option Nat) (m : Nat) (Q : Exit → Act → World → Prop) : Prop :=
 ∀ ⦃i : Nat⦄ ⦃o : Oper⦄, ops[i]? = some o → ∀ ⦃t : T Value⦄ ⦃h : AH⦄ ⦃φ : Phi⦄ ⦃a : Act⦄ ⦃w : World⦄ ⦃l : List (Value × AH)⦄ ⦃K : Act → World → Prop⦄, aStep P call n t h o.op = some l → Nx φ0 φ h0 h → R w0 φ h w → FR φ n t a.tmps → a.defers = d0 →
  (∀ s u, a.tmps[s]? = some u → (∀ j, dstAt ops j ≠ some s) → VR φ (vt tb s) u) →
  (∀ v h2 v' w' φ', (v, h2) ∈ l → Nx φ φ' h h2 → R w0 φ' h2 w' → VR φ' v v' → K (a.put o.dst v') w') → o.wpIn (FW q) m P a w K Q
theorem step_inv (_hN : NoCount P) {call : Call1} {d0 : List Deferred} {C C' : Ct} {lst : Nat → Prop} {a : Act} {q : Option Nat} {m : Nat} {Q : Exit → Act → World → Prop} {K : Act → World → Prop} (hc : StepsOk w0 P call n ops φ0 h0 tb d0 q m Q) (sp : PlanSpec n ops ls ms) (hn : T.Ok (n))
  (hcl : ∀ (i : Nat) (o : Oper), lst i → ops[i]? = some o → ∀ j, j ∈ edgesOf o → lst j) (inv : Inv w0 P n ops ls φ0 h0 tb d0 C lst a w) {i : Nat} {o : Oper} (ho : ops[i]? = some o) (hun : ¬ lst i) (hrd : ∀ j, j ∈ edgesOf o → lst j)
  (hE' : isE ops i = true → CStep P call n ops ls ms C C' i o) (hKN : isE ops i = false → ∀ a' w', Inv w0 P n ops ls φ0 h0 tb d0 C (fun j => lst j ∨ j = i) a' w' → K a' w') (hKE : isE ops i = true → ∀ a' w', Inv w0 P n ops ls φ0 h0 tb d0 C' (fun j => lst j ∨ j = i) a' w' → K a' w') : wpOpIn (FW q) m P ops Q i K a w := by
 obtain ⟨L, seen, t1, h1, φ, b, hcont, c, k2⟩ := inv
 have hi : i < ops.size := (Array.getElem?_eq_some_iff.1 ho).1
 have hdi := dstAt_eq ho
 -- its level
 have hle : ls.getD i 0 ≤ L := by
  rcases sp.att i o ho with h5 | ⟨j, hj, h5⟩
  · omega
  · have hlj := hrd j hj
    have hjl : j < ops.size := Nat.lt_trans (sp.edge i o j ho hj).1 hi
    have hd := c.ld j hjl hlj
    unfold step1 at h5
    cases hE : isE ops j with
    | true =>
      rw [hE] at h5
      simp only [if_true] at h5
      rcases hd with hd | hd
      · omega
      · rw [hE] at hd; cases hd.1
    | false =>
      rw [hE] at h5
      simp only [Bool.false_eq_true, if_false, Nat.add_zero] at h5
      rcases hd with hd | hd <;> omega
 obtain ⟨tS, fS, wS, uS⟩ := c.frame hn
 -- a slot that no edge of its own writes is as it was
 have noedge : ∀ s, s ∈ slots o.op → s < n → (∀ j, j ∈ edgesOf o → dstAt ops j ≠ some s) → vt tS s = vt tb s := by
  intro s hs hsn hno
  refine uS s hsn (fun j hl hd => ?_)
  rcases sp.slot i o s j ho hs hd with h5 | h5
  · exact hno j h5 hd
  · have hjo : ops[j]? = some (ops[j]'(dstAt_lt hd)) := Array.getElem?_eq_getElem (dstAt_lt hd)
    have h6 := h5.1
    unfold edgeTo at h6
    rw [hjo] at h6
    exact hun (hcl j _ hl hjo i (by simpa using h6))
 have gS : ∀ s, gslot ops o = some s → s < n → vt tS s = vt t1 s := by
  intro s hg hsn
  unfold gslot at hg
  cases hq : o.guard with
  | none => rw [hq] at hg; cases hg
  | some p =>
    obtain ⟨g, y⟩ := p
    rw [hq] at hg
    exact wS s g hsn (hrd g (sp.guard i o g y ho hq)) hg
 unfold wpOpIn
 rw [ho]
 dsimp only
 rw [want_ok fS]
 cases hE : isE ops i with
 | false =>
  have hdone : ls.getD i 0 < L ∨ (isE ops i = false ∧ ls.getD i 0 = L) := by
    rcases Nat.lt_or_ge (ls.getD i 0) L with h5 | h5
    · exact .inl h5
    · exact .inr ⟨hE, by omega⟩
  have hk0 : opK o.op ≠ 0 := by rw [isE_of ho] at hE; simpa using hE
  obtain ⟨tq, hh, q1, q2, q3, q4⟩ := c.nn i o ho hE hdone hun
  have aS : ∀ s, s ∈ slots o.op → s < n → vt tq s = vt tS s := by
    intro s hs hsn
    by_cases e : ∃ j, j ∈ edgesOf o ∧ dstAt ops j = some s
    · obtain ⟨j, hj, hd⟩ := e
      rw [(q1 s hs).1 j hj hd, wS s j hsn (hrd j hj) hd]
    · have hno : ∀ j, j ∈ edgesOf o → dstAt ops j ≠ some s := fun j hj hd => e ⟨j, hj, hd⟩
      rw [(q1 s hs).2 hno, noedge s hs hsn hno]
  have gq : ∀ s, gslot ops o = some s → s < n → vt tq s = vt tS s := fun s hg hsn => by rw [q2 s hg, gS s hg hsn]
  have hwq : aWant n tq ops o = aWant n tS ops o := aWant_congr gq
  have hw1 : aWant n t1 ops o = aWant n tS ops o := aWant_congr (fun s hg hsn => (gS s hg hsn).symm)
  -- what is known behind
  have fin : ∀ {v v' : Value} {w' : World} {φ' : Phi}, Le φ φ' → Nx φ0 φ' h0 h1 → R w0 φ' h1 w' → VR φ' v v' → (∀ d, o.dst = some d → vt t1 d = v) →
      (∀ (j : Nat) (o' : Oper), ops[j]? = some o' → j ≠ i → isE ops j = false → (ls.getD j 0 < L ∨ (isE ops j = false ∧ ls.getD j 0 = L)) → b j % 2 = 0 → b j / 2 < h1.next → φ (b j / 2) = none → φ' (b j / 2) = none) → K (a.put o.dst v') w' := by
    intro v v' w' φ' le nx r hv hd hkeep
    obtain ⟨p1, p2, p3, p4⟩ := c.put le ho hv (fun s _ => rfl) hd
    refine hKN hE _ _ ⟨L, seen, t1, h1, φ', b, hcont, ⟨fun j hj hl => ?_, fun j hj hEj hdj => .inl (c.ed j hj hEj hdj), r, nx, p1, p2, p3, p4, c.tt, fun j o' ho' hEj hdj hl => ?_, c.bb, c.bl, fun j o' ho' hkj hdj hl => c.sn j o' ho' hkj hdj (fun x => hl (.inl x))⟩,
      fun j o' ho' hkj hdj hl hw => k2 j o' ho' hkj hdj (fun x => hl (.inl x)) hw⟩
    · rcases hl with hl | hl
      · exact c.ld j hj hl
      · subst hl; exact hdone
    · obtain ⟨tq', hh', e1, e2, e3, e4⟩ := c.nn j o' ho' hEj hdj (fun x => hl (.inl x))
      refine ⟨tq', hh', e1, e2, e3, fun hk3 hw => ?_⟩
      have hb : b j / 2 < h1.next := by
        rcases e3 with ⟨_, ⟨hk, _⟩ | ⟨_, al, mk, _, hb, _⟩⟩ | ⟨hw', _⟩
        · omega
        · exact hb
        · rw [hw] at hw'; cases hw'
      exact ⟨hkeep j o' ho' (fun e => hl (.inr e)) hEj hdj (e4 hk3 hw).2 hb (e4 hk3 hw).1, (e4 hk3 hw).2⟩
  rcases q3 with ⟨hw, ⟨hk12, v, hv, hd⟩ | ⟨hk3, al, mk, hal, hb1, hb2, hd⟩⟩ | ⟨hw, hd⟩
  · rw [if_pos (by rw [← hwq]; exact hw)]
    have hvS : ∃ v, aVal P n tS h1 o.op = some v ∧ ∀ d, o.dst = some d → vt t1 d = v := by
      rcases hk12 with hk | hk
      · exact ⟨v, by rw [← aVal_congr aS, ← hv]; exact aVal_pure hk, hd⟩
      · obtain ⟨v2, hv2, hd2⟩ := k2 i o ho hk hdone hun (by rw [hw1, ← hwq]; exact hw)
        have a1S : ∀ s, s ∈ slots o.op → s < n → vt t1 s = vt tS s := by
          intro s hs hsn
          by_cases e : ∃ j, j ∈ edgesOf o ∧ dstAt ops j = some s
          · obtain ⟨j, hj, hdj⟩ := e
            exact (wS s j hsn (hrd j hj) hdj).symm
          · have hno : ∀ j, j ∈ edgesOf o → dstAt ops j ≠ some s := fun j hj hdj => e ⟨j, hj, hdj⟩
            rw [noedge s hs hsn hno]
            refine c.tt s (fun j hdj _ => ?_)
            rcases sp.slot i o s j ho hs hdj with h5 | h5
            · exact hno j h5 hdj
            · exact h5.2 hk
        exact ⟨v2, by rw [← aVal_congr a1S]; exact hv2, hd2⟩
    obtain ⟨v, hvS⟩ := hvS
    obtain ⟨nx, w', φ', e1, e2, e3, e4⟩ := simN c.r fS hvS.1
    refine ⟨fun f _ => FW_fn q f, ?_⟩
    rw [FW_round, Oper.semAt_eq _ _ _ (opK_defer hk0), e1]
    cases e4 with
    | val hvv =>
      refine fin e2.le (c.nx.trans e2) e3 hvv hvS.2 (fun j o' _ _ _ _ _ hb hn' => (e2.ghost _ hn' hb).1)
  · rw [if_pos (by rw [← hwq]; exact hw)]
    have halS : aAl P n tS o.op = some (al, mk) := by rw [← aAl_congr aS]; exact hal
    obtain ⟨hok, x, hx, hrun⟩ := al_run fS halS
    obtain ⟨hnone, hev⟩ := q4 hk3 hw
    obtain ⟨φ', le, e2, e3, e4⟩ := c.r.bindGhost hnone hb1 hb2 hok hx
    refine ⟨fun f _ => FW_fn q f, ?_⟩
    rw [FW_round, Oper.semAt_eq _ _ _ (opK_defer hk0), hrun]
    have nx' : Nx φ0 φ' h0 h1 := ⟨c.nx.le.trans le, c.nx.next, fun k hk hlt => by
      have := c.nx.ghost k hk hlt
      refine ⟨?_, this.2⟩
      rw [e3 k (fun e => ?_)]
      · exact this.1
      · subst e
        rcases c.bl i hi hE hdone with h5 | h5 <;> omega⟩
    exact fin le nx' e4 (Mk.rel hok e2) hd (fun j o' ho' hji hEj hdj hpj hb hn' => by
      rw [e3 (b j / 2) (by have := c.bb j i (Array.getElem?_eq_some_iff.1 ho').1 hi hEj hE hdj hdone hji; omega)]; exact hn')
  · rw [if_neg (by rw [← hwq, hw]; simp)]
    refine ⟨fun f _ => FW_fn q f, fin (Le.refl φ) c.nx c.r .undef hd (fun j o' _ _ _ _ _ _ hn' => hn')⟩
 | true =>
  have hL : ls.getD i 0 = L := by
    rcases Nat.lt_or_ge (ls.getD i 0) L with h5 | h5
    · exact (hun (c.ed i hi hE (.inl h5))).elim
    · omega
  have uniq : ∀ j, j < ops.size → isE ops j = true → ls.getD j 0 = L → j = i := by
    intro j hj hEj hLj
    rcases Nat.lt_trichotomy j i with h5 | h5 | h5
    · have := sp.tot i j hi hE hEj h5; omega
    · exact h5
    · have := sp.tot j i hj hEj hE h5; omega
  obtain ⟨hcw, hcn⟩ := hE' hE L seen t1 h1 hL hcont
  -- what an edge leads from
  have up : ∀ {j : Nat} {o' : Oper}, ops[j]? = some o' → i ∈ edgesOf o' → L < ls.getD j 0 := by
    intro j o' ho' hj
    have := (sp.edge j o' i ho' hj).2
    unfold step1 at this
    rw [hE] at this
    simp only [if_true] at this
    omega
  have aS : ∀ s, s ∈ slots o.op → s < n → vt t1 s = vt tS s := by
    intro s hs hsn
    by_cases e : ∃ j, j ∈ edgesOf o ∧ dstAt ops j = some s
    · obtain ⟨j, hj, hd⟩ := e
      exact (wS s j hsn (hrd j hj) hd).symm
    · have hno : ∀ j, j ∈ edgesOf o → dstAt ops j ≠ some s := fun j hj hd => e ⟨j, hj, hd⟩
      rw [noedge s hs hsn hno]
      refine c.tt s (fun j hdj hdone => ?_)
      rcases sp.slot i o s j ho hs hdj with h5 | h5
      · exact hno j h5 hdj
      · have hjo : ops[j]? = some (ops[j]'(dstAt_lt hdj)) := Array.getElem?_eq_getElem (dstAt_lt hdj)
        have h6 := h5.1
        unfold edgeTo at h6
        rw [hjo] at h6
        have := up hjo (by simpa using h6)
        rcases hdone with h7 | h7 <;> omega
  have hw1 : aWant n t1 ops o = aWant n tS ops o := aWant_congr (fun s hg hsn => (gS s hg hsn).symm)
  have hcl' : ∀ (j : Nat) (o' : Oper), (lst j ∨ j = i) → ops[j]? = some o' → ∀ k, k ∈ edgesOf o' → (lst k ∨ k = i) := by
    intro j o' hl ho' k hk
    rcases hl with hl | hl
    · exact .inl (hcl j o' hl ho' k hk)
    · subst hl
      rw [ho] at ho'; cases ho'
      exact .inl (hrd k hk)
  have fin : ∀ {v v' : Value} {w' : World} {φ' : Phi} {h2 : AH} {t2 : T Value}, Nx φ φ' h1 h2 → R w0 φ' h2 w' → VR φ' v v' → aPut n t1 o.dst v = some t2 →
      Enter P n ops ls C' (L + 1) ((seen ++ lvN ops ls L).filter fun j => !(ms.getD i 0).testBit j) t2 h2 → K (a.put o.dst v') w' := by
    intro v v' w' φ' h2 t2 nx r hv hput hlv
    have hvt := vt_put hput hn
    obtain ⟨p1, p2, p3, p4⟩ := c.put nx.le ho hv (t2 := t2) (fun s hs => by rw [hvt, if_neg hs]) (fun d hd => by rw [hvt, if_pos hd])
    have other : ∀ s j, dstAt ops j = some s → j ≠ i → vt t2 s = vt t1 s := fun s j hd hji => by
      rw [hvt, if_neg (fun e => hji ((sp.dst i s (by rw [hdi]; exact e)).2 j hd))]
    have lev_of : ∀ j, isE ops j = false → ls.getD j 0 < L + 1 → (ls.getD j 0 < L ∨ (isE ops j = false ∧ ls.getD j 0 = L)) := fun j hEj hj => by
      rcases Nat.lt_or_ge (ls.getD j 0) L with h5 | h5
      · exact .inl h5
      · exact .inr ⟨hEj, by omega⟩
    refine hKE hE _ _ (enter_inv sp hn (b := b) ⟨fun j hj hl => ?_, fun j hj hEj hdj => ?_, r, c.nx.trans nx, p1, p2, p3, p4, fun s hs => ?_, fun j o' ho' hEj hdj hl => ?_, fun j j2 hj hj2 hEj hEj2 hd hd2 hne => c.bb j j2 hj hj2 hEj hEj2 (lev_of j hEj hd) (lev_of j2 hEj2 hd2) hne, fun j hj hEj hd => ?_, fun j o' ho' hkj hdj hl => ?_⟩ hlv)
    · rcases hl with hl | hl
      · rcases c.ld j hj hl with h5 | h5 <;> omega
      · subst hl; omega
    · by_cases e : j = i
      · exact .inr e
      · refine .inl (c.ed j hj hEj (.inl ?_))
        rcases Nat.lt_or_ge (ls.getD j 0) L with h5 | h5
        · exact h5
        · exact (e (uniq j hj hEj (by omega))).elim
    · rw [hvt, if_neg (fun e => hs i (by rw [hdi]; exact e) (by omega))]
      exact c.tt s (fun j hd hdone => hs j hd (by rcases hdone with h5 | h5 <;> omega))
    · have hji : j ≠ i := fun e => hl (.inr e)
      have hlv' := lev_of j hEj hdj
      obtain ⟨tq, hh, e1, e2, e3, e4⟩ := c.nn j o' ho' hEj hlv' (fun x => hl (.inl x))
      have notedge : i ∉ edgesOf o' := fun hin => by have := up ho' hin; rcases hlv' with h5 | h5 <;> omega
      have hdst : ∀ d, o'.dst = some d → vt t2 d = vt t1 d := fun d hd => other d j (by rw [dstAt_eq ho']; exact hd) hji
      refine ⟨tq, hh, fun s hs => ⟨fun k hk hd => ?_, (e1 s hs).2⟩, fun s hg => ?_, ?_, fun hk3 hw => ?_⟩
      · rw [(e1 s hs).1 k hk hd, other s k hd (fun e => notedge (e ▸ hk))]
      · rw [e2 s hg]
        unfold gslot at hg
        cases hq : o'.guard with
        | none => rw [hq] at hg; cases hg
        | some p =>
          obtain ⟨g, y⟩ := p
          rw [hq] at hg
          exact (other s g hg (fun e => notedge (e ▸ sp.guard j o' g y ho' hq))).symm
      · rcases e3 with ⟨hw, ⟨hk, v3, hv3, hd⟩ | ⟨hk, al, mk, hal, hb1, hb2, hd⟩⟩ | ⟨hw, hd⟩
        · exact .inl ⟨hw, .inl ⟨hk, v3, hv3, fun d hd' => by rw [hdst d hd', hd d hd']⟩⟩
        · have hg := nx.ghost (b j / 2) (e4 hk hw).1 hb1
          exact .inl ⟨hw, .inr ⟨hk, al, mk, hal, Nat.lt_of_lt_of_le hb1 nx.next, by rw [hg.2]; exact hb2, fun d hd' => by rw [hdst d hd', hd d hd']⟩⟩
        · exact .inr ⟨hw, fun d hd' => by rw [hdst d hd', hd d hd']⟩
      · have hb : b j / 2 < h1.next := by
          rcases e3 with ⟨_, ⟨hk, _⟩ | ⟨_, al, mk, _, hb, _⟩⟩ | ⟨hw', _⟩
          · omega
          · exact hb
          · rw [hw] at hw'; cases hw'
        exact ⟨(nx.ghost (b j / 2) (e4 hk3 hw).1 hb).1, (e4 hk3 hw).2⟩
    · rcases c.bl j hj hEj (lev_of j hEj hd) with h5 | h5
      · exact .inl ⟨h5.1, Nat.lt_of_lt_of_le h5.2.1 nx.next, h5.2.2⟩
      · exact .inr h5
    · have hEj : isE ops j = false := by rw [isE_of ho', hkj]; rfl
      refine List.mem_filter.2 ⟨c.sn j o' ho' hkj (lev_of j hEj hdj) (fun x => hl (.inl x)), ?_⟩
      cases hbit : (ms.getD i 0).testBit j with
      | false => rfl
      | true => exact (hl (mask_listed sp hcl' i j (.inr rfl) hi hbit)).elim
  by_cases hw : aWant n t1 ops o = true
  · rw [if_pos (by rw [← hw1]; exact hw)]
    obtain ⟨l0, hl0, hall⟩ := hcw hw
    refine hc ho (by rw [← aStep_congr aS]; exact hl0) c.nx c.r fS c.df (fun s u hu hno => c.fb s u hu (fun j _ => hno j)) ?_
    intro v h2 v' w' φ' hm nx r hv
    obtain ⟨t2, hput, hen⟩ := hall _ _ hm
    exact fin nx r hv hput hen
  · have hw' : aWant n t1 ops o = false := by simpa using hw
    rw [if_neg (by rw [← hw1]; exact hw)]
    obtain ⟨t2, hput, hen⟩ := hcn hw'
    exact ⟨fun f _ => FW_fn q f, fin (.refl φ h1) c.r .undef hput hen⟩
end
end Go.X
namespace Go.X
noncomputable section
open Go Go.RowKit
variable {w0 w w' : World} {φ φ' φ0 : Phi} {h h' h0 h1 h2 : AH} {P : Program} {n : Nat} {t t' tb t1 t2 : T Value} {ops : Array Oper} {ls ms : List Nat}
def Cl (P : Program) (call : Call1) (n : Nat) (ops : Array Oper) (ls ms : List Nat) (l : List (T Value × AH)) : Ct := fun L seen t1 h1 => ∃ k lo, aCont P call n ops ls ms (aLv P call n ops ls ms k) L seen t1 h1 = some lo ∧ ∀ x, x ∈ lo → x ∈ l
theorem enter_cl {call : Call1} {l lo : List (T Value × AH)} {k L : Nat} {seen : List Nat} (hs : aLv P call n ops ls ms k L seen t h = some lo) (hsub : ∀ x, x ∈ lo → x ∈ l) : Enter P n ops ls (Cl P call n ops ls ms l) L seen t h := by
 cases k with
 | zero => simp [aLv] at hs
 | succ k =>
  simp only [aLv] at hs
  split at hs
  · cases hs
  · rename_i t1 h1 hns
    split at hs
    · rename_i hr
      exact ⟨t1, h1, hns, hr, k, lo, hs, hsub⟩
    · cases hs
theorem lvE_at (sp : PlanSpec n ops ls ms) {i : Nat} (hi : i < ops.size) (hE : isE ops i = true) {L : Nat} (hL : ls.getD i 0 = L) : lvE ops ls L = some i := by
 have uniq : ∀ j, j < ops.size → isE ops j = true → ls.getD j 0 = L → j = i := by
  intro j hj hEj hLj
  rcases Nat.lt_trichotomy j i with h5 | h5 | h5
  · have := sp.tot i j hi hE hEj h5; omega
  · exact h5
  · have := sp.tot j i hj hEj hE h5; omega
 unfold lvE
 cases hq : (List.range ops.size).find? (fun i => isE ops i && decide (ls.getD i 0 = L)) with
 | none =>
  have := List.find?_eq_none.1 hq i (List.mem_range.2 hi)
  rw [hE] at this
  simp only [Bool.true_and, decide_eq_true_eq] at this
  exact (this hL).elim
 | some e =>
  have h5 := List.find?_some hq
  have h6 := List.mem_of_find?_eq_some hq
  simp only [Bool.and_eq_true, decide_eq_true_eq] at h5
  rw [uniq e (List.mem_range.1 h6) h5.1 h5.2]
theorem cl_step (sp : PlanSpec n ops ls ms) {call : Call1} {l : List (T Value × AH)} {i : Nat} {o : Oper} (ho : ops[i]? = some o) (hE : isE ops i = true) : CStep P call n ops ls ms (Cl P call n ops ls ms l) (Cl P call n ops ls ms l) i o := by
 rintro L seen t1 h1 hL ⟨k, lo, hcont, hsub⟩
 have hfe := lvE_at sp (Array.getElem?_eq_some_iff.1 ho).1 hE hL
 unfold aCont at hcont
 rw [hfe] at hcont
 dsimp only at hcont
 rw [ho] at hcont
 dsimp only at hcont
 refine ⟨fun hw => ?_, fun hw => ?_⟩
 · rw [if_pos hw] at hcont
   obtain ⟨l0, hl0, hall⟩ := bindL_spec hcont
   refine ⟨l0, hl0, fun v h2 hm => ?_⟩
   obtain ⟨k3, hk3, hsub3⟩ := hall _ hm
   dsimp only at hk3
   split at hk3
   · rename_i t2 hput
     exact ⟨t2, hput, enter_cl hk3 (fun x hx => hsub x (hsub3 x hx))⟩
   · cases hk3
 · rw [if_neg (by rw [hw]; simp)] at hcont
   split at hcont
   · rename_i t2 hput
     exact ⟨t2, hput, enter_cl hcont hsub⟩
   · cases hcont
theorem fin_c (hn : T.Ok (n)) {C : Ct} {d0 : List Deferred} {l : List (T Value × AH)} {lst : Nat → Prop} {a : Act} (hC : ∀ L seen t1 h1, C L seen t1 h1 → lvE ops ls L = none → (t1, h1) ∈ l) (hall : ∀ j, j < ops.size → lst j) (inv : Inv w0 P n ops ls φ0 h0 tb d0 C lst a w) :
   ∃ t' h' φ', (t', h') ∈ l ∧ Nx φ0 φ' h0 h' ∧ R w0 φ' h' w ∧ FR φ' n t' a.tmps ∧ a.defers = d0 := by
 obtain ⟨L, seen, t1, h1, φ, b, hcont, c, k2⟩ := inv
 have hnone : lvE ops ls L = none := by
   unfold lvE
   rw [List.find?_eq_none]
   intro e he hh
   simp only [Bool.and_eq_true, decide_eq_true_eq] at hh
   have hlt := List.mem_range.1 he
   rcases c.ld e hlt (hall e hlt) with h5 | h5
   · omega
   · rw [hh.1] at h5; cases h5.1
 refine ⟨t1, h1, φ, hC L seen t1 h1 hcont hnone, c.nx, c.r, ⟨c.size, hn, fun s u hu => ?_⟩, c.df⟩
 by_cases e : ∃ j, dstAt ops j = some s
 · obtain ⟨j, hd⟩ := e
   exact c.fw s u j hu (hall j (dstAt_lt hd)) hd
 · have h5 := c.tt s (fun j hd => (e ⟨j, hd⟩).elim)
   unfold vt at h5
   rw [h5]
   exact c.fb s u hu (fun j _ hd => e ⟨j, hd⟩)
theorem fin_inv (hn : T.Ok (n)) {call : Call1} {d0 : List Deferred} {l : List (T Value × AH)} {lst : Nat → Prop} {a : Act} (hall : ∀ j, j < ops.size → lst j) (inv : Inv w0 P n ops ls φ0 h0 tb d0 (Cl P call n ops ls ms l) lst a w) :
  ∃ t' h' φ', (t', h') ∈ l ∧ Nx φ0 φ' h0 h' ∧ R w0 φ' h' w ∧ FR φ' n t' a.tmps ∧ a.defers = d0 := by
 refine fin_c hn (fun L seen t1 h1 hC hnone => ?_) hall inv
 obtain ⟨k, lo, hcont, hsub⟩ := hC
 unfold aCont at hcont
 rw [hnone] at hcont
 cases hcont
 exact hsub _ (List.mem_singleton.2 rfl)
end
end Go.X
namespace Go.X
noncomputable section
open Go Go.RowKit
variable {w0 w w' : World} {φ φ' φ0 : Phi} {h h' : AH} {P : Program} {n : Nat} {t t' : T Value} {ops : Array Oper}
theorem sameT_ok {α : Type} {f : α → α → Bool} (hf : ∀ x y, f x y = true → x = y) : ∀ {a b : T α}, sameT f a b = true → a = b
 | .e, .e, _ => rfl
 | .n l v r, .n l' v' r', h => by
  unfold sameT at h
  rw [Bool.and_eq_true, Bool.and_eq_true] at h
  rw [sameT_ok hf h.1, sameT_ok hf h.2.2]
  have : v = v' := by
   have h2 := h.2.1
   cases v <;> cases v' <;> simp [sameOp] at h2 ⊢
   exact hf _ _ h2
  rw [this]
 | .e, .n .., h => by simp [sameT] at h
 | .n .., .e, h => by simp [sameT] at h
theorem sameEs_ok : ∀ {l m : List (Value × Value × Nat)}, sameEs l m = true → l = m
 | [], [], _ => rfl
 | (a, b, c) :: l, (a', b', c') :: l', h => by
  simp only [sameEs, Bool.and_eq_true] at h
  rw [veq_eq _ _ _ h.1, veq_eq _ _ _ h.2.1, Nat.eq_of_beq_eq_true h.2.2.1, sameEs_ok h.2.2.2]
 | [], _ :: _, h => by simp [sameEs] at h
 | _ :: _, [], h => by simp [sameEs] at h
theorem sameNs_ok : ∀ {l m : List Nat}, sameNs l m = true → l = m
 | [], [], _ => rfl
 | a :: l, b :: m, h => by
  unfold sameNs at h
  rw [Bool.and_eq_true] at h
  rw [Nat.eq_of_beq_eq_true h.1, sameNs_ok h.2]
 | [], _ :: _, h => by cases h
 | _ :: _, [], h => by cases h
theorem sameBag_ok : ∀ {l m : List (ByteArray × Value)}, sameBag l m = true → l = m
 | [], [], _ => rfl
 | (a, v) :: l, (b, u) :: m, h => by
  unfold sameBag at h
  rw [Bool.and_eq_true, Bool.and_eq_true] at h
  rw [sameB_iff.1 h.1, veq_eq _ _ _ h.2.1, sameBag_ok h.2.2]
 | [], _ :: _, h => by simp [sameBag] at h
 | _ :: _, [], h => by simp [sameBag] at h
theorem sameO_ok (a b : AObj) (h : sameO a b = true) : a = b := by
 unfold sameO at h
 split at h
 · simp only [Bool.and_eq_true] at h
   rw [sameT_ok (veq_eq 9) h.1, Nat.eq_of_beq_eq_true h.2.1, Nat.eq_of_beq_eq_true h.2.2.1, eq_of_beq h.2.2.2]
 · simp only [Bool.and_eq_true] at h
   rw [sameEs_ok h.1, Nat.eq_of_beq_eq_true h.2.1, eq_of_beq h.2.2]
 · rfl
 · rw [sameBag_ok h]
 · simp only [Bool.and_eq_true] at h
   rw [Nat.eq_of_beq_eq_true h.1, sameT_ok (veq_eq 9) h.2.1, Nat.eq_of_beq_eq_true h.2.2.1, Nat.eq_of_beq_eq_true h.2.2.2]
 · rename_i m since seen st m' since' seen' st'
   simp only [Bool.and_eq_true] at h
   have hm : m = m' := by
    have h2 := h.1
    cases m <;> cases m' <;> simp [sameOp] at h2 ⊢
    exact h2
   rw [hm, Nat.eq_of_beq_eq_true h.2.1, sameNs_ok h.2.2.1, Nat.eq_of_beq_eq_true h.2.2.2]
 · rename_i s p s' p'
   simp only [Bool.and_eq_true] at h
   have : s = s' := by
    have h1 := sameBs_ok h.1
    cases s; cases s'
    congr 1
    exact Array.ext' h1
   rw [this, Nat.eq_of_beq_eq_true h.2]
 · cases h
theorem sameH_ok {h h' : AH} (e : sameH h h' = true) : h = h' := by
 unfold sameH at e
 rw [Bool.and_eq_true] at e
 have e1 := Nat.eq_of_beq_eq_true e.1
 have e2 := sameT_ok sameO_ok e.2
 cases h; cases h'
 simp only at e1 e2
 rw [e1, e2]
theorem sameOut_ok {p q : T Value × AH} (e : sameOut p q = true) : p = q := by
 unfold sameOut at e
 rw [Bool.and_eq_true] at e
 exact Prod.ext (sameT_ok (veq_eq 9) e.1) (sameH_ok e.2)
theorem allL_spec {α β : Type} {f : α → Option (List β)} : ∀ {l : List α} {m : List β}, allL f l = some m → ∀ a, a ∈ l → ∃ k, f a = some k ∧ ∀ b, b ∈ k → b ∈ m
 | [], m, h, a, ha => by cases ha
 | x :: l, m, h, a, ha => by
  unfold allL at h
  split at h
  · rename_i u v hu hv
    cases h
    rcases List.mem_cons.1 ha with rfl | ha
    · exact ⟨u, hu, fun b hb => List.mem_append.2 (.inl hb)⟩
    · obtain ⟨k, h1, h2⟩ := allL_spec hv a ha
      exact ⟨k, h1, fun b hb => List.mem_append.2 (.inr (h2 b hb))⟩
  · cases h
theorem filter_ne : ∀ {l : List Nat} {j : Nat}, j ∉ l → (l.filter fun x => !Nat.beq x j) = l
 | [], _, _ => rfl
 | x :: l, j, h => by
  have hx : Nat.beq x j = false := by
   cases hb : Nat.beq x j with
   | false => rfl
   | true => exact (h (by rw [Nat.eq_of_beq_eq_true hb]; simp)).elim
  rw [List.filter_cons, hx, filter_ne (fun y => h (List.mem_cons_of_mem _ y))]
  rfl
theorem filter_len : ∀ {l : List Nat} {j : Nat}, l.Nodup → j ∈ l → l.length = (l.filter fun x => !Nat.beq x j).length + 1
 | [], _, _, h => by cases h
 | x :: l, j, hn, h => by
  rw [List.nodup_cons] at hn
  rw [List.filter_cons]
  cases hb : Nat.beq x j with
  | true =>
   have := Nat.eq_of_beq_eq_true hb
   subst this
   simp [filter_ne hn.1]
  | false =>
   have hne : j ≠ x := fun e => by subst e; rw [Nat.beq_refl] at hb; cases hb
   have := filter_len hn.2 (by rcases List.mem_cons.1 h with e | e; exact (hne e).elim; exact e)
   simp only [Bool.not_false, if_true, List.length_cons]
   omega
theorem put_fb {tb : T Value} {a : Act} (fb : ∀ s u, a.tmps[s]? = some u → (∀ j, dstAt ops j ≠ some s) → VR φ (vt tb s) u) (le : Le φ φ') {i : Nat} {o : Oper} (ho : ops[i]? = some o) {v' : Value} :
  ∀ s u, (a.put o.dst v').tmps[s]? = some u → (∀ j, dstAt ops j ≠ some s) → VR φ' (vt tb s) u := by
 intro s u hu hno
 have hne := hno i
 rw [dstAt_eq ho] at hne
 refine (fb s u ?_ hno).mono le
 cases hd : o.dst with
 | none => rw [hd] at hu; exact hu
 | some d =>
  rw [hd] at hu
  have hu' : (a.tmps.setIfInBounds d v')[s]? = some u := hu
  rw [Array.getElem?_setIfInBounds, if_neg (fun e => hne (by rw [hd, e]))] at hu'
  exact hu'
theorem all_okS {call : Call1} {φ0 : Phi} {h0 : AH} {tb : T Value} {d0 : List Deferred} {q : Option Nat} {m : Nat} {Q : Exit → Act → World → Prop} (hc : StepsOk w0 P call n ops φ0 h0 tb d0 q m Q) : ∀ (k : Nat) (left : List Nat) {listed : Array Bool} {t : T Value} {h : AH} {φ : Phi} {a : Act} {w : World} {l : List (T Value × AH)},
  aAll P call n ops k left t h = some l → Nx φ0 φ h0 h → a.defers = d0 → (∀ s u, a.tmps[s]? = some u → (∀ j, dstAt ops j ≠ some s) → VR φ (vt tb s) u) → R w0 φ h w → FR φ n t a.tmps → listed.size = ops.size → left.Nodup → (∀ j, listed.getD j true = false ↔ j ∈ left) →
  (∀ t' h' φ' (a' : Act) w', (t', h') ∈ l → Nx φ φ' h h' → R w0 φ' h' w' → FR φ' n t' a'.tmps → a'.defers = a.defers → Q .normal a' w') → wpAnyIn (FW q) m P .any ops Q left.length listed a w
 | k, [], listed, t, h, φ, a, w, l, hs, n0, df, fb, hr, hf, hsz, hnd, hl, hQ => by
  have hs : some [(t, h)] = some l := by cases k <;> exact hs
  cases hs
  refine ⟨?_, hQ _ _ φ a w (List.mem_singleton.2 rfl) (.refl φ h) hr hf rfl⟩
  cases hrd : Region.ready .any ops listed with
  | nil => rfl
  | cons i r =>
    have hi : i ∈ Region.ready .any ops listed := by rw [hrd]; simp
    have := (hl i).1 (mem_ready.1 hi).1
    cases this
 | 0, i :: r, listed, t, h, φ, a, w, l, hs, n0, df, fb, hr, hf, hsz, hnd, hl, hQ => by cases hs
 | k + 1, i :: r, listed, t, h, φ, a, w, l, hs, n0, df, fb, hr, hf, hsz, hnd, hl, hQ => by
  unfold aAll at hs
  have ready : ∀ j, j ∈ (i :: r).filter (isReady ops (i :: r)) ↔ j ∈ Region.ready .any ops listed := by
    intro j
    rw [List.mem_filter, mem_ready]
    constructor
    · rintro ⟨h1, h2⟩
      refine ⟨(hl j).2 h1, ?_⟩
      unfold isReady at h2
      split at h2
      · rename_i o ho
        refine ⟨o, ho, fun e he hb => ?_⟩
        have h3 := List.all_eq_true.1 h2 e.on (by unfold edgesOf; exact List.mem_map.2 ⟨e, List.mem_filter.2 ⟨by simpa using he, hb⟩, rfl⟩)
        rw [Bool.and_eq_true] at h3
        have h4 : ¬ e.on ∈ i :: r := by simpa using h3.2
        have h5 : e.on < listed.size := by rw [hsz]; exact Nat.le_of_ble_eq_true h3.1
        have h6 : ¬ listed.getD e.on true = false := fun x => h4 ((hl _).1 x)
        rw [Array.getD_eq_getD_getElem?, Array.getElem?_eq_getElem h5] at h6 ⊢
        simpa using h6
      · cases h2
    · rintro ⟨h1, o, ho, h2⟩
      refine ⟨(hl j).1 h1, ?_⟩
      unfold isReady
      rw [ho]
      refine List.all_eq_true.2 (fun x hx => ?_)
      rw [Bool.and_eq_true]
      unfold edgesOf at hx
      obtain ⟨e, he, rfl⟩ := List.mem_map.1 hx
      obtain ⟨h5, h6⟩ := List.mem_filter.1 he
      have h7 := h2 e (by simpa using h5) h6
      have h8 : ¬ e.on ∈ i :: r := fun hm => by
        have := (hl e.on).2 hm
        rw [Array.getD_eq_getD_getElem?] at this h7
        cases hg : listed[e.on]? with
        | none => rw [hg] at this; simp at this
        | some b => rw [hg] at this h7; simp at this h7; rw [this] at h7; cases h7
      have h9 : e.on < ops.size := by
        rw [← hsz]
        refine Nat.lt_of_not_le (fun hle => ?_)
        rw [Array.getD_eq_getD_getElem?, Array.getElem?_eq_none hle] at h7
        cases h7
      exact ⟨Nat.ble_eq_true_of_le h9, by simpa using h8⟩
  split at hs
  · cases hs
  · rename_i rd hne
    refine ⟨fun he => ?_, fun j hj => ?_⟩
    · exfalso
      apply hne
      cases hq : (i :: r).filter (isReady ops (i :: r)) with
      | nil => rfl
      | cons x y =>
        have := (ready x).1 (by rw [hq]; simp)
        rw [he] at this; cases this
    · obtain ⟨kk, hk, hsub⟩ := allL_spec hs j ((ready j).2 hj)
      obtain ⟨hun, o, ho, _⟩ := mem_ready.1 hj
      have hjl : j ∈ i :: r := (hl j).1 hun
      have hlen : (i :: r).length = ((i :: r).filter fun x => !Nat.beq x j).length + 1 := filter_len hnd hjl
      have hjs : j < listed.size := by rw [hsz]; exact (Array.getElem?_eq_some_iff.1 ho).1
      have next : ∀ {t' : T Value} {h2 : AH} {φ2 : Phi} {a2 : Act} {w2 : World} {l2 : List (T Value × AH)}, aAll P call n ops k ((i :: r).filter fun x => !Nat.beq x j) t' h2 = some l2 → (∀ x, x ∈ l2 → x ∈ l) → Nx φ φ2 h h2 → (∀ s u, a2.tmps[s]? = some u → (∀ j, dstAt ops j ≠ some s) → VR φ2 (vt tb s) u) → R w0 φ2 h2 w2 → FR φ2 n t' a2.tmps → a2.defers = a.defers →
          wpAnyIn (FW q) m P .any ops Q (r.length) (listed.setIfInBounds j true) a2 w2 := by
        intro t' h2 φ2 a2 w2 l2 e1 e2 nx2 fb2 r2 f2 d2
        have := all_okS hc k _ (listed := listed.setIfInBounds j true) e1 (n0.trans nx2) (d2.trans df) fb2 r2 f2 (by simp [hsz]) (hnd.filter _) ?_ (fun t3 h3 φ3 a3 w3 hm nx3 r3 f3 d3 => hQ t3 h3 φ3 a3 w3 (e2 _ hm) (nx2.trans nx3) r3 f3 (d3.trans d2))
        · have e3 : ((i :: r).filter fun x => !Nat.beq x j).length = r.length := by simp only [List.length_cons] at hlen; omega
          rw [e3] at this
          exact this
        · intro x
          rw [List.mem_filter]
          by_cases e : j = x
          · subst e
            rw [Array.getD_eq_getD_getElem?, Array.getElem?_setIfInBounds_self_of_lt hjs]
            simp
          · rw [getD_set_ne true e]
            have : Nat.beq x j = false := by
             cases hb : Nat.beq x j with
             | false => rfl
             | true => exact (e (Nat.eq_of_beq_eq_true hb).symm).elim
            rw [this]
            simp only [Bool.not_false, and_true]
            exact hl x
      show wpOpIn (FW q) m P ops Q j (wpAnyIn (FW q) m P .any ops Q r.length (listed.setIfInBounds j true)) a w
      unfold wpOpIn
      rw [ho] at hk ⊢
      dsimp only at hk ⊢
      rw [want_ok hf]
      cases hw : aWant n t ops o with
      | true =>
        rw [hw] at hk
        dsimp only at hk
        rw [if_pos rfl]
        obtain ⟨l0, hl0, hall⟩ := bindL_spec hk
        refine hc ho hl0 n0 hr hf df fb ?_
        intro v h2 v' w' φ' hm nx2 r2 hv
        obtain ⟨k3, hk3, hsub3⟩ := hall _ hm
        dsimp only at hk3
        split at hk3
        · rename_i t2 hput
          obtain ⟨f2, d2⟩ := put_ok (hf.mono nx2.le) hput hv
          exact next hk3 (fun x hx => hsub x (hsub3 x hx)) nx2 (put_fb fb nx2.le ho) r2 f2 d2
        · cases hk3
      | false =>
        rw [hw] at hk
        dsimp only at hk
        rw [if_neg (by simp)]
        split at hk
        · rename_i t2 hput
          obtain ⟨f2, d2⟩ := put_ok hf hput .undef
          exact ⟨fun f _ => FW_fn q f, next hk hsub (.refl φ h) (put_fb fb (Le.refl φ) ho) hr f2 d2⟩
        · cases hk
end
end Go.X
namespace Go.X
noncomputable section
open Go Go.RowKit
variable {w0 w w' : World} {φ φ' φ0 : Phi} {h h' : AH} {P : Program} {n : Nat} {t t' : T Value} {ops : Array Oper}
theorem addEdge_get (i : Nat) : ∀ (j : Nat) (l : List Oper) (k : Nat), (addEdge i j l)[k]? = if k = j then (l[k]?).map (fun o => { o with after := ⟨o.after.toList ++ [⟨i, .data⟩]⟩ }) else l[k]?
 | j, [], k => by cases j <;> simp [addEdge]
 | 0, o :: l, k => by cases k <;> simp [addEdge]
 | j + 1, o :: l, k => by
  cases k with
  | zero => simp [addEdge]
  | succ k => simp only [addEdge, List.getElem?_cons_succ, addEdge_get i j l k, Nat.add_right_cancel_iff]
theorem withEdge_get (i j k : Nat) : (withEdge ops i j)[k]? = if k = j then (ops[k]?).map (fun o => { o with after := ⟨o.after.toList ++ [⟨i, .data⟩]⟩ }) else ops[k]? := by
 have := addEdge_get i j ops.toList k
 simpa [withEdge] using this
theorem yielded_edge (i j : Nat) (a : Array Value) : yielded (withEdge ops i j) a = yielded ops a := by
 funext k
 unfold yielded
 rw [withEdge_get]
 by_cases e : k = j
 · rw [if_pos e]
   cases ops[k]? <;> rfl
 · rw [if_neg e]
theorem wpOpIn_edge {i j k : Nat} {q : Option Nat} {m : Nat} {Q : Exit → Act → World → Prop} {K : Act → World → Prop} {a : Act} (h : wpOpIn (FW q) m P (withEdge ops i j) Q k K a w) : wpOpIn (FW q) m P ops Q k K a w := by
 unfold wpOpIn at h ⊢
 rw [withEdge_get] at h
 by_cases e : k = j
 · rw [if_pos e] at h
   cases ho : ops[k]? with
   | none => rw [ho] at h; exact h
   | some o =>
    rw [ho] at h
    dsimp only [Option.map] at h ⊢
    rw [yielded_edge] at h
    exact h
 · rw [if_neg e] at h
   cases ho : ops[k]? with
   | none => rw [ho] at h; exact h
   | some o =>
    rw [ho] at h
    dsimp only at h ⊢
    rw [yielded_edge] at h
    exact h
end
end Go.X
namespace Go.X
noncomputable section
open Go Go.RowKit
variable {w0 w w' : World} {φ φ' φ0 : Phi} {h h' : AH} {P : Program} {n : Nat} {t t' : T Value} {ops : Array Oper} {ls ms : List Nat}
theorem mergeO_left {lo o : List (T Value × AH)} : ∀ x, x ∈ lo → x ∈ mergeO lo o := fun _x hx => List.mem_append.2 (.inl hx)
theorem mergeO_right {lo o : List (T Value × AH)} : ∀ x, x ∈ o → x ∈ mergeO lo o := fun x hx => by
 unfold mergeO
 rw [List.mem_append]
 cases hb : lo.any fun y => sameOut x y with
 | true =>
  obtain ⟨y, hy, e⟩ := List.any_eq_true.1 hb
  rw [sameOut_ok e]; exact .inl hy
 | false => exact .inr (List.mem_filter.2 ⟨hx, by rw [hb]; rfl⟩)
def Cf (P : Program) (call : Call1) (n : Nat) (ops : Array Oper) (ls ms : List Nat) (fk : Fk) (l : List (T Value × AH)) : Ct := fun L seen t1 h1 => ∃ k lo o, fk L t1 h1 = some o ∧ (∀ x, x ∈ o → x ∈ l) ∧ aCont P call n ops ls ms (fLv P call n ops ls ms fk k) L seen t1 h1 = some lo ∧ ∀ x, x ∈ lo → x ∈ l
theorem enter_cf {call : Call1} {fk : Fk} {l lo : List (T Value × AH)} {k L : Nat} {seen : List Nat} (hs : fLv P call n ops ls ms fk k L seen t h = some lo) (hsub : ∀ x, x ∈ lo → x ∈ l) : Enter P n ops ls (Cf P call n ops ls ms fk l) L seen t h := by
 cases k with
 | zero => simp [fLv] at hs
 | succ k =>
  simp only [fLv] at hs
  split at hs
  · cases hs
  · rename_i t1 h1 hns
    split at hs
    · rename_i hr
      split at hs
      · rename_i o lo' ho hlo
        cases hs
        exact ⟨t1, h1, hns, hr, k, lo', o, ho, fun x hx => hsub x (mergeO_right x hx), hlo, fun x hx => hsub x (mergeO_left x hx)⟩
      · cases hs
    · cases hs
theorem cf_step (sp : PlanSpec n ops ls ms) {call : Call1} {fk : Fk} {l : List (T Value × AH)} {i : Nat} {o : Oper} (ho : ops[i]? = some o) (hE : isE ops i = true) : CStep P call n ops ls ms (Cf P call n ops ls ms fk l) (Cf P call n ops ls ms fk l) i o := by
 rintro L seen t1 h1 hL ⟨k, lo, oo, _, _, hcont, hsub⟩
 have hfe := lvE_at sp (Array.getElem?_eq_some_iff.1 ho).1 hE hL
 unfold aCont at hcont
 rw [hfe] at hcont
 dsimp only at hcont
 rw [ho] at hcont
 dsimp only at hcont
 refine ⟨fun hw => ?_, fun hw => ?_⟩
 · rw [if_pos hw] at hcont
   obtain ⟨l0, hl0, hall⟩ := bindL_spec hcont
   refine ⟨l0, hl0, fun v h2 hm => ?_⟩
   obtain ⟨k3, hk3, hsub3⟩ := hall _ hm
   dsimp only at hk3
   split at hk3
   · rename_i t2 hput
     exact ⟨t2, hput, enter_cf hk3 (fun x hx => hsub x (hsub3 x hx))⟩
   · cases hk3
 · rw [if_neg (by rw [hw]; simp)] at hcont
   split at hcont
   · rename_i t2 hput
     exact ⟨t2, hput, enter_cf hcont hsub⟩
   · cases hcont
end
end Go.X
namespace Go.X
noncomputable section
open Go Go.RowKit
variable {w0 w w' : World} {φ φ' φ0 : Phi} {h h' h0 h1 : AH} {P : Program} {n : Nat} {t t' tb t1 : T Value} {ops : Array Oper} {ls ms : List Nat}
theorem dstAt_edge (i j k : Nat) : dstAt (withEdge ops i j) k = dstAt ops k := by
 unfold dstAt
 rw [withEdge_get]
 by_cases e : k = j
 · rw [if_pos e]; cases ops[k]? <;> rfl
 · rw [if_neg e]
theorem isE_edge (i j k : Nat) : isE (withEdge ops i j) k = isE ops k := by
 unfold isE
 rw [withEdge_get]
 by_cases e : k = j
 · rw [if_pos e]; cases ops[k]? <;> rfl
 · rw [if_neg e]
theorem size_addEdge (i : Nat) : ∀ (j : Nat) (l : List Oper), (addEdge i j l).length = l.length
 | j, [] => by cases j <;> rfl
 | 0, o :: l => rfl
 | j + 1, o :: l => by simp only [addEdge, List.length_cons, size_addEdge i j l]
theorem size_edge (i j : Nat) : (withEdge ops i j).size = ops.size := by
 simpa [withEdge] using size_addEdge i j ops.toList
theorem vt_setSlots (ops : Array Oper) (t1 : T Value) : ∀ (l : List Nat) (t : T Value) (s : Nat), ((∃ k, k ∈ l ∧ dstAt ops k = some s) → vt (setSlots ops t1 l t) s = vt t1 s) ∧ ((∀ k, k ∈ l → dstAt ops k ≠ some s) → vt (setSlots ops t1 l t) s = vt t s)
 | [], t, s => ⟨fun ⟨k, hk, _⟩ => (by cases hk), fun _ => rfl⟩
 | k :: r, t, s => by
  have ih := vt_setSlots ops t1 r (setSlot ops t1 k t) s
  unfold setSlots
  refine ⟨fun ⟨x, hx, hd⟩ => ?_, fun hno => ?_⟩
  · by_cases e : ∃ y, y ∈ r ∧ dstAt ops y = some s
    · exact ih.1 e
    · rcases List.mem_cons.1 hx with rfl | hx
      · rw [ih.2 (fun y hy hd' => e ⟨y, hy, hd'⟩)]
        unfold setSlot
        rw [hd]
        unfold vt
        rw [T.get_set, if_pos rfl]
        rfl
      · exact (e ⟨x, hx, hd⟩).elim
  · rw [ih.2 (fun y hy => hno y (List.mem_cons_of_mem _ hy))]
    have := hno k List.mem_cons_self
    unfold setSlot
    cases hk : dstAt ops k with
    | none => rfl
    | some d =>
      rw [hk] at this
      unfold vt
      rw [T.get_set, if_neg (fun e => this (by rw [e]))]
theorem mem_subs (p : Nat → Bool) : ∀ (l : List Nat), l.filter p ∈ subs l
 | [] => by simp [subs]
 | x :: l => by
  unfold subs
  rw [List.filter_cons, List.mem_append]
  cases p x with
  | true => exact .inr (List.mem_map.2 ⟨_, mem_subs p l, rfl⟩)
  | false => exact .inl (mem_subs p l)
theorem edgesOf_edge {i j k : Nat} {o : Oper} (ho : ops[k]? = some o) : ∃ oA, (withEdge ops i j)[k]? = some oA ∧ oA.op = o.op ∧ oA.dst = o.dst ∧ (∀ e, e ∈ edgesOf o → e ∈ edgesOf oA) ∧ ∀ e, e ∈ edgesOf oA → e ∈ edgesOf o ∨ (k = j ∧ e = i) := by
 by_cases e : k = j
 · refine ⟨{ o with after := ⟨o.after.toList ++ [⟨i, .data⟩]⟩ }, by rw [withEdge_get, if_pos e, ho]; rfl, rfl, rfl, fun x hx => ?_, fun x hx => ?_⟩
   · unfold edgesOf at hx ⊢
     obtain ⟨y, hy, rfl⟩ := List.mem_map.1 hx
     obtain ⟨h1, h2⟩ := List.mem_filter.1 hy
     exact List.mem_map.2 ⟨y, List.mem_filter.2 ⟨List.mem_append.2 (.inl h1), h2⟩, rfl⟩
   · unfold edgesOf at hx ⊢
     obtain ⟨y, hy, rfl⟩ := List.mem_map.1 hx
     obtain ⟨h1, h2⟩ := List.mem_filter.1 hy
     rcases List.mem_append.1 h1 with h1 | h1
     · exact .inl (List.mem_map.2 ⟨y, List.mem_filter.2 ⟨h1, h2⟩, rfl⟩)
     · rw [List.mem_singleton] at h1
       subst h1
       exact .inr ⟨e, rfl⟩
 · exact ⟨o, by rw [withEdge_get, if_neg e, ho], rfl, rfl, fun x hx => hx, fun x hx => .inl hx⟩
theorem StepsOk.edge {call : Call1} {d0 : List Deferred} {q : Option Nat} {m : Nat} {Q : Exit → Act → World → Prop} (hc : StepsOk w0 P call n ops φ0 h0 tb d0 q m Q) (i j : Nat) : StepsOk w0 P call n (withEdge ops i j) φ0 h0 tb d0 q m Q := by
 intro k oA hoA t h φ a w l K hs nx hr hf hd hfb hK
 have hfb' : ∀ s u, a.tmps[s]? = some u → (∀ x, dstAt ops x ≠ some s) → VR φ (vt tb s) u := fun s u hu hno => hfb s u hu (fun x => by rw [dstAt_edge]; exact hno x)
 rw [withEdge_get] at hoA
 by_cases e : k = j
 · rw [if_pos e] at hoA
   cases ho : ops[k]? with
   | none => rw [ho] at hoA; cases hoA
   | some o =>
    rw [ho] at hoA
    cases hoA
    exact hc ho hs nx hr hf hd hfb' hK
 · rw [if_neg e] at hoA
   exact hc hoA hs nx hr hf hd hfb' hK
theorem count_left (l : List Bool) : ((List.range l.length).filter fun k => !(l.getD k true)).length = l.countP (fun b => !b) := by
 have e : l = (List.range l.length).map (fun k => l.getD k true) := by
  apply List.ext_getElem
  · simp
  · intro k h1 h2
    simp [List.getElem?_eq_getElem h1]
 conv => rhs; rw [e]
 rw [List.countP_map, List.countP_eq_length_filter]
 rfl
theorem getD_tf {l : Array Bool} {k : Nat} (hk : k < l.size) : l.getD k true = l.getD k false := by
 rw [Array.getD_eq_getD_getElem?, Array.getD_eq_getD_getElem?, Array.getElem?_eq_getElem hk]; rfl
theorem fin_cf (hn : T.Ok (n)) {call : Call1} {fk : Fk} {d0 : List Deferred} {l : List (T Value × AH)} {lst : Nat → Prop} {a : Act} (hall : ∀ j, j < ops.size → lst j) (inv : Inv w0 P n ops ls φ0 h0 tb d0 (Cf P call n ops ls ms fk l) lst a w) :
  ∃ t' h' φ', (t', h') ∈ l ∧ Nx φ0 φ' h0 h' ∧ R w0 φ' h' w ∧ FR φ' n t' a.tmps ∧ a.defers = d0 := by
 refine fin_c hn (fun L seen t1 h1 hC hnone => ?_) hall inv
 obtain ⟨k, lo, oo, _, _, hcont, hsub⟩ := hC
 unfold aCont at hcont
 rw [hnone] at hcont
 cases hcont
 exact hsub _ (List.mem_singleton.2 rfl)
theorem draw2_okS (hN : NoCount P) (hM : P.follows .mixedOrders = true) {call : Call1} {id i0 j0 : Nat} {l : List (T Value × AH)} {a : Act} {q : Option Nat} {m : Nat} {Q : Exit → Act → World → Prop} (hc : StepsOk w0 P call n ops φ h t a.defers q m Q)
   (hs : aDraw2 P call n ops (withEdge ops i0 j0) (levL (withEdge ops i0 j0)) (maskL (withEdge ops i0 j0)) i0 j0 t h = some l) (hr : R w0 φ h w) (hf : FR φ n t a.tmps)
   (hQ : ∀ t' h' φ' (a' : Act) w', (t', h') ∈ l → Nx φ φ' h h' → R w0 φ' h' w' → FR φ' n t' a'.tmps → a'.defers = a.defers → Q .normal a' w') : (Code.region id ops true).wpIn (FW q) m P Q a w := by
 unfold aDraw2 at hs
 split at hs
 · rename_i hp
   rw [Bool.and_eq_true] at hp
   have sp := plan_spec hp.1
   have hpair := hp.2
   have hn := hf.lt
   generalize levL (withEdge ops i0 j0) = ls at hs sp hpair
   generalize maskL (withEdge ops i0 j0) = ms at hs sp
   unfold pairOk at hpair
   rw [Bool.and_eq_true] at hpair
   have hcA := hc.edge i0 j0
   have szA := size_edge (ops := ops) i0 j0
   refine wpIn_region_any hM ?_
   have main : ∀ (fuel : Nat) (listed : Array Bool) (a' : Act) (w' : World), listed.size = ops.size → listed.toList.countP (fun b => !b) = fuel →
       (∀ (i : Nat) (o : Oper), listed.getD i false = true → ops[i]? = some o → ∀ j, j ∈ edgesOf o → listed.getD j false = true) →
       (listed.getD j0 false = true → listed.getD i0 false = true) →
       Inv w0 P n (withEdge ops i0 j0) ls φ h t a.defers (Cf P call n (withEdge ops i0 j0) ls ms (aFork P call n ops ls i0 t) l) (fun j => listed.getD j false = true) a' w' → wpAnyIn (FW q) m P .any ops Q fuel listed a' w' := by
     intro fuel
     induction fuel with
     | zero =>
       intro listed a' w' hsz hcnt hcl hij inv
       have hall : ∀ j, j < ops.size → listed.getD j false = true := by
         intro j hj
         have hj' : j < listed.size := by omega
         have := List.countP_eq_zero.1 hcnt (listed[j]) (by simp)
         rw [Array.getD_eq_getD_getElem?, Array.getElem?_eq_getElem hj']
         simpa using this
       refine ⟨?_, ?_⟩
       · cases hr : Region.ready .any ops listed with
         | nil => rfl
         | cons i r =>
           have hi : i ∈ Region.ready .any ops listed := by rw [hr]; simp
           obtain ⟨h1, o, ho, _⟩ := mem_ready.1 hi
           have := hall i (Array.getElem?_eq_some_iff.1 ho).1
           have hi' : i < listed.size := by rw [hsz]; exact (Array.getElem?_eq_some_iff.1 ho).1
           rw [Array.getD_eq_getD_getElem?, Array.getElem?_eq_getElem hi'] at h1 this
           simp at h1 this
           rw [h1] at this; cases this
       · obtain ⟨t', h', φ', h1, h2, h3, h4, h5⟩ := fin_cf hn (fun j hj => hall j (by rw [← szA]; exact hj)) inv
         exact hQ t' h' φ' a' w' h1 h2 h3 h4 h5
     | succ fuel ih =>
       intro listed a' w' hsz hcnt hcl hij inv
       refine ⟨fun hr => ?_, fun i hi => ?_⟩
       · exfalso
         have hex : ∃ j, j < listed.size ∧ listed.getD j true = false := by
           have hpos : 0 < listed.toList.countP (fun b => !b) := by omega
           obtain ⟨x, hx, hb⟩ := List.countP_pos_iff.1 hpos
           obtain ⟨j, hj, e⟩ := List.getElem_of_mem hx
           refine ⟨j, by simpa using hj, ?_⟩
           rw [Array.getD_eq_getD_getElem?, Array.getElem?_eq_getElem (by simpa using hj)]
           simp at hb e ⊢
           rw [e, hb]
         have least : ∀ {p : Nat → Prop}, (∃ m, p m) → ∃ m, p m ∧ ∀ k, p k → m ≤ k := by
           intro p hx
           obtain ⟨m, hm⟩ := hx
           induction m using Nat.strongRecOn with
           | _ m ih =>
             by_cases hx : ∃ k, k < m ∧ p k
             · obtain ⟨k, hk, hp⟩ := hx; exact ih k hk hp
             · exact ⟨m, hm, fun k hp => by
                rcases Nat.lt_or_ge k m with h | h
                · exact (hx ⟨k, h, hp⟩).elim
                · exact h⟩
         obtain ⟨j, ⟨hj, hf'⟩, hmin⟩ := least hex
         have hjo : j < ops.size := by omega
         have : j ∈ Region.ready .any ops listed := mem_ready.2 ⟨hf', ops[j], Array.getElem?_eq_getElem hjo, fun e he hb => by
           have hin : e.on ∈ edgesOf ops[j] := by
             unfold edgesOf
             exact List.mem_map.2 ⟨e, List.mem_filter.2 ⟨by simpa using he, hb⟩, rfl⟩
           obtain ⟨oA, hoA, _, _, hin2, _⟩ := edgesOf_edge (i := i0) (j := j0) (Array.getElem?_eq_getElem hjo)
           have hlt := (sp.edge j oA e.on hoA (hin2 _ hin)).1
           have hl' : e.on < listed.size := by omega
           cases hv : listed.getD e.on false with
           | true => rfl
           | false =>
             have : listed.getD e.on true = false := by
               rw [Array.getD_eq_getD_getElem?, Array.getElem?_eq_getElem hl'] at hv ⊢
               simpa using hv
             have := hmin e.on ⟨hl', this⟩
             omega⟩
         rw [hr] at this; simp at this
       · obtain ⟨hun, o, ho, haft⟩ := mem_ready.1 hi
         have hil : i < listed.size := by rw [hsz]; exact (Array.getElem?_eq_some_iff.1 ho).1
         have hun' : ¬ listed.getD i false = true := by
           rw [Array.getD_eq_getD_getElem?, Array.getElem?_eq_getElem hil] at hun ⊢
           simp at hun ⊢
           exact hun
         have hrd : ∀ j, j ∈ edgesOf o → listed.getD j false = true := by
           intro j hj
           unfold edgesOf at hj
           obtain ⟨e, he, rfl⟩ := List.mem_map.1 hj
           obtain ⟨h5, h6⟩ := List.mem_filter.1 he
           exact haft e (by simpa using h5) h6
         have hset : (fun j => (listed.setIfInBounds i true).getD j false = true) = fun j => listed.getD j false = true ∨ j = i := by
           funext j
           apply propext
           by_cases e : j = i
           · subst e
             simp [Array.getD_eq_getD_getElem?, hil]
           · rw [getD_set_ne false (fun x => e x.symm)]
             simp [e]
         by_cases hfork : i = j0 ∧ ¬ listed.getD i0 false = true
         · obtain ⟨e0, hni⟩ := hfork
           subst e0
           obtain ⟨L, seen, t1, h1, φ1, b, ⟨k, lo, oo, hfk, hsubo, _, _⟩, c, _⟩ := inv
           have hiE : isE ops i0 = true := hpair.1
           have hi0 : i0 < ops.size := by
             unfold isE at hiE
             cases hq : ops[i0]? with
             | none => rw [hq] at hiE; cases hiE
             | some x => exact (Array.getElem?_eq_some_iff.1 hq).1
           have hge : L ≤ ls.getD i0 0 := by
             rcases Nat.lt_or_ge (ls.getD i0 0) L with h5 | h5
             · exact (hni (c.ed i0 (by rw [szA]; exact hi0) (by rw [isE_edge]; exact hiE) (.inl h5))).elim
             · exact h5
           have hleL : ls.getD i0 0 ≤ L := by
             have h6 := hpair.2
             rw [Bool.or_eq_true] at h6
             rcases h6 with h6 | h6
             · rw [Nat.eq_of_beq_eq_true h6]; exact Nat.zero_le _
             · rw [ho] at h6
               dsimp only at h6
               obtain ⟨e, he, h7⟩ := List.any_eq_true.1 h6
               have h7 := of_decide_eq_true h7
               have hle := hrd e he
               have hel : e < ops.size := by
                rw [← hsz]
                refine Nat.lt_of_not_le (fun hx => ?_)
                rw [Array.getD_eq_getD_getElem?, Array.getElem?_eq_none hx] at hle
                cases hle
               have h8 := c.ld e (by rw [szA]; exact hel) hle
               rw [isE_edge] at h8
               unfold step1 at h7
               cases hE : isE ops e with
               | true =>
                rw [hE] at h7 h8
                simp only [if_true] at h7
                rcases h8 with h8 | h8
                · omega
                · cases h8.1
               | false =>
                rw [hE] at h7
                simp only [Bool.false_eq_true, if_false, Nat.add_zero] at h7
                rcases h8 with h8 | h8 <;> omega
           have hLi : L = ls.getD i0 0 := Nat.le_antisymm hge hleL
           unfold aFork at hfk
           rw [if_pos (by rw [hLi]; exact Nat.beq_refl _)] at hfk
           have hmem : ∀ k, k ∈ (List.range ops.size).filter (fun k => if isE ops k then Nat.ble L (ls.getD k 0) else (((List.range ops.size).filter fun k => !isE ops k).filter fun k => !listed.getD k false).contains k) ↔ listed.getD k true = false := by
             intro k
             rw [List.mem_filter, List.mem_range]
             constructor
             · rintro ⟨hk, h5⟩
               rw [getD_tf (by rw [hsz]; exact hk)]
               cases hE : isE ops k with
               | true =>
                rw [hE] at h5
                simp only [if_true] at h5
                have h5 := Nat.le_of_ble_eq_true h5
                cases hv : listed.getD k false with
                | false => rfl
                | true =>
                  rcases c.ld k (by rw [szA]; exact hk) hv with h6 | h6
                  · omega
                  · rw [isE_edge, hE] at h6; cases h6.1
               | false =>
                rw [hE] at h5
                simp only [Bool.false_eq_true, if_false] at h5
                have h5 : k ∈ ((List.range ops.size).filter fun k => !isE ops k).filter fun k => !listed.getD k false := by simpa using h5
                have := (List.mem_filter.1 h5).2
                simpa using this
             · intro h5
               have hk : k < ops.size := by
                rw [← hsz]
                refine Nat.lt_of_not_le (fun hx => ?_)
                rw [Array.getD_eq_getD_getElem?, Array.getElem?_eq_none hx] at h5
                cases h5
               rw [getD_tf (by rw [hsz]; exact hk)] at h5
               refine ⟨hk, ?_⟩
               cases hE : isE ops k with
               | true =>
                simp only [if_true]
                refine Nat.ble_eq_true_of_le ?_
                rcases Nat.lt_or_ge (ls.getD k 0) L with h6 | h6
                · have := c.ed k (by rw [szA]; exact hk) (by rw [isE_edge]; exact hE) (.inl h6)
                  rw [h5] at this; cases this
                · exact h6
               | false =>
                simp only [Bool.false_eq_true, if_false]
                have : k ∈ ((List.range ops.size).filter fun k => !isE ops k).filter fun k => !listed.getD k false :=
                  List.mem_filter.2 ⟨List.mem_filter.2 ⟨List.mem_range.2 hk, by rw [hE]; rfl⟩, by rw [h5]; rfl⟩
                simpa using this
           have hlt : ∀ k, listed.getD k false = true → k < ops.size := by
             intro k hk
             rw [← hsz]
             refine Nat.lt_of_not_le (fun hx => ?_)
             rw [Array.getD_eq_getD_getElem?, Array.getElem?_eq_none hx] at hk
             cases hk
           generalize hleft : (List.range ops.size).filter (fun k => if isE ops k then Nat.ble L (ls.getD k 0) else (((List.range ops.size).filter fun k => !isE ops k).filter fun k => !listed.getD k false).contains k) = left at hmem
           have hcand : left ∈ cands ops ls L := by
             unfold cands
             refine List.mem_filter.2 ⟨List.mem_map.2 ⟨_, mem_subs (fun k => !listed.getD k false) _, hleft⟩, ?_⟩
             refine List.all_eq_true.2 (fun k hk => ?_)
             have hk := List.mem_range.1 hk
             cases hv : listed.getD k false with
             | false =>
               have : k ∈ left := (hmem k).2 (by rw [getD_tf (by rw [hsz]; exact hk)]; exact hv)
               rw [Bool.or_eq_true]
               exact .inl (by simpa using this)
             | true =>
               rw [Bool.or_eq_true]
               refine .inr ?_
               cases hq : ops[k]? with
               | none => rfl
               | some x =>
                dsimp only
                refine List.all_eq_true.2 (fun y hy => ?_)
                have h5 := hcl k x hv hq y hy
                have h6 : ¬ y ∈ left := fun hm => by
                  have := (hmem y).1 hm
                  rw [getD_tf (by rw [hsz]; exact hlt y h5), h5] at this
                  cases this
                simpa using h6
           obtain ⟨kk, hkk, hsubk⟩ := allL_spec hfk left hcand
           have hdone : ∀ k, k ∈ (List.range ops.size).filter (fun k => !left.contains k) ↔ listed.getD k false = true := by
             intro k
             rw [List.mem_filter, List.mem_range]
             constructor
             · rintro ⟨hk, h5⟩
               have h5 : ¬ k ∈ left := by simpa using h5
               cases hv : listed.getD k false with
               | true => rfl
               | false => exact (h5 ((hmem k).2 (by rw [getD_tf (by rw [hsz]; exact hk)]; exact hv))).elim
             · intro h5
               refine ⟨hlt k h5, ?_⟩
               have : ¬ k ∈ left := fun hm => by
                have := (hmem k).1 hm
                rw [getD_tf (by rw [hsz]; exact hlt k h5), h5] at this
                cases this
               simpa using this
           have fS : FR φ1 n (setSlots ops t1 ((List.range ops.size).filter fun k => !left.contains k) t) a'.tmps := by
             refine ⟨c.size, hn, fun s u hu => ?_⟩
             have hv := vt_setSlots ops t1 ((List.range ops.size).filter fun k => !left.contains k) t s
             by_cases e : ∃ k, listed.getD k false = true ∧ dstAt ops k = some s
             · obtain ⟨k, h5, h6⟩ := e
               have h7 := hv.1 ⟨k, (hdone k).2 h5, h6⟩
               unfold vt at h7
               rw [h7]
               exact c.fw s u k hu h5 (by rw [dstAt_edge]; exact h6)
             · have h7 := hv.2 (fun k hk hd => e ⟨k, (hdone k).1 hk, hd⟩)
               unfold vt at h7
               rw [h7]
               exact c.fb s u hu (fun k h5 h6 => e ⟨k, h5, by rw [dstAt_edge] at h6; exact h6⟩)
           have hlen : left.length = fuel + 1 := by
             rw [← hcnt, ← count_left]
             have : left = (List.range listed.toList.length).filter fun k => !(listed.toList.getD k true) := by
               rw [← hleft]
               have hs2 : listed.toList.length = ops.size := by rw [← hsz]; simp
               rw [hs2]
               refine List.filter_congr (fun k hk => ?_)
               have hk := List.mem_range.1 hk
               have e1 : listed.toList.getD k true = listed.getD k true := by
                rw [Array.getD_eq_getD_getElem?, List.getD_eq_getElem?_getD, Array.getElem?_toList]
               have h5 := hmem k
               rw [← hleft, List.mem_filter, List.mem_range] at h5
               rw [e1]
               cases hv : listed.getD k true with
               | false => exact (h5.2 hv).2
               | true =>
                cases hb : (if isE ops k then Nat.ble L (ls.getD k 0) else (((List.range ops.size).filter fun k => !isE ops k).filter fun k => !listed.getD k false).contains k) with
                | false => rfl
                | true => rw [h5.1 ⟨hk, hb⟩] at hv; cases hv
             rw [← this]
           have hall2 := all_okS hc ops.size left (listed := listed) hkk c.nx c.df (fun s u hu hno => c.fb s u hu (fun k _ => by rw [dstAt_edge]; exact hno k)) c.r fS hsz
             (by rw [← hleft]; exact (List.nodup_range).filter _) (fun k => (hmem k).symm)
             (fun t' h' φ' a2 w2 hm nx2 r2 f2 d2 => hQ t' h' φ' a2 w2 (hsubo _ (hsubk _ hm)) (c.nx.trans nx2) r2 f2 (d2.trans c.df))
           rw [hlen] at hall2
           exact hall2.2 i hi
         obtain ⟨oA, hoA, _, _, inA, outA⟩ := edgesOf_edge (i := i0) (j := j0) ho
         have hrdA : ∀ j, j ∈ edgesOf oA → listed.getD j false = true := by
           intro j hj
           rcases outA j hj with h5 | ⟨h5, h6⟩
           · exact hrd j h5
           · subst h6
             cases hv : listed.getD j false with
             | true => rfl
             | false => exact (hfork ⟨h5, by rw [hv]; simp⟩).elim
         have hclA : ∀ (i : Nat) (o : Oper), listed.getD i false = true → (withEdge ops i0 j0)[i]? = some o → ∀ j, j ∈ edgesOf o → listed.getD j false = true := by
           intro k o' hk ho' j hj
           have hkl : k < ops.size := by
             rw [← hsz]
             refine Nat.lt_of_not_le (fun hx => ?_)
             rw [Array.getD_eq_getD_getElem?, Array.getElem?_eq_none hx] at hk
             cases hk
           obtain ⟨oB, hoB, _, _, _, outB⟩ := edgesOf_edge (i := i0) (j := j0) (Array.getElem?_eq_getElem hkl)
           rw [ho'] at hoB
           cases hoB
           rcases outB j hj with h5 | ⟨h5, h6⟩
           · exact hcl k _ hk (Array.getElem?_eq_getElem hkl) j h5
           · subst h5; subst h6; exact hij hk
         refine wpOpIn_edge (i := i0) (j := j0) ?_
         suffices hK : ∀ a2 w2, Inv w0 P n (withEdge ops i0 j0) ls φ h t a.defers (Cf P call n (withEdge ops i0 j0) ls ms (aFork P call n ops ls i0 t) l) (fun j => listed.getD j false = true ∨ j = i) a2 w2 → _ from step_inv hN hcA sp hn hclA inv hoA hun' hrdA (fun hE => cf_step sp hoA hE) (fun _ => hK) (fun _ => hK)
         intro a2 w2 inv2
         refine ih _ a2 w2 (by simp [hsz]) ?_ ?_ ?_ (by rw [hset]; exact inv2)
         · have := countF_set hun; omega
         · intro k o' hk ho' j hj
           have h5 : listed.getD k false = true ∨ k = i := by rw [← congrFun hset k]; exact hk
           have h6 : listed.getD j false = true := by
             rcases h5 with h5 | h5
             · exact hcl k o' h5 ho' j hj
             · subst h5
               rw [ho] at ho'; cases ho'
               exact hrd j hj
           have : listed.getD j false = true ∨ j = i := .inl h6
           rw [← congrFun hset j] at this
           exact this
         · intro hj0
           have h5 : listed.getD j0 false = true ∨ j0 = i := by rw [← congrFun hset j0]; exact hj0
           have h6 : listed.getD i0 false = true := by
             rcases h5 with h5 | h5
             · exact hij h5
             · cases hv : listed.getD i0 false with
               | true => rfl
               | false => exact (hfork ⟨h5.symm, by rw [hv]; simp⟩).elim
           have : listed.getD i0 false = true ∨ i0 = i := .inl h6
           rw [← congrFun hset i0] at this
           exact this
   have hz : ∀ j, (Array.replicate ops.size false).getD j false = false := by
     intro j
     rw [Array.getD_eq_getD_getElem?, Array.getElem?_replicate]
     split <;> rfl
   refine main _ _ a _ (by simp) ?_ (fun i o hi => by rw [hz] at hi; cases hi) (fun hi => by rw [hz] at hi; cases hi) ?_
   · rw [Array.toList_replicate, List.countP_replicate]
     simp
   · refine enter_inv sp hn (φ := φ) (b := fun i => 2 * i + 1) ⟨fun i _ hl => ?_, fun i _ _ hd => ?_, hr.drew, .refl φ h, hf.size, fun s u j _ hl => ?_, fun s u hu _ => hf.get s u hu, rfl, fun _ _ => rfl, fun i o _ _ hd => ?_, fun i j _ _ _ _ hd => ?_, fun i _ _ hd => ?_, fun i o _ _ hd => ?_⟩ (enter_cf hs (fun x hx => hx))
     · rw [hz] at hl; cases hl
     · exact (Nat.not_lt_zero _ hd).elim
     · rw [hz] at hl; cases hl
     · exact (Nat.not_lt_zero _ hd).elim
     · exact (Nat.not_lt_zero _ hd).elim
     · exact (Nat.not_lt_zero _ hd).elim
     · exact (Nat.not_lt_zero _ hd).elim
 · cases hs
end
end Go.X
namespace Go.X
noncomputable section
open Go Go.RowKit
variable {w0 w w' : World} {φ φ' φ0 : Phi} {h h' h0 h1 h2 : AH} {P : Program} {n : Nat} {t t' tb t1 t2 : T Value} {ops : Array Oper} {ls ms : List Nat}
theorem draw_okS (hN : NoCount P) (hM : P.follows .mixedOrders = true) {call : Call1} {id : Nat} {l : List (T Value × AH)} {a : Act} {q : Option Nat} {m : Nat} {Q : Exit → Act → World → Prop} (hc : StepsOk w0 P call n ops φ h t a.defers q m Q)
   (hs : aDraw P call n ops t h = some l) (hr : R w0 φ h w) (hf : FR φ n t a.tmps)
   (hQ : ∀ t' h' φ' (a' : Act) w', (t', h') ∈ l → Nx φ φ' h h' → R w0 φ' h' w' → FR φ' n t' a'.tmps → a'.defers = a.defers → Q .normal a' w') : (Code.region id ops true).wpIn (FW q) m P Q a w := by
 unfold aDraw at hs
 split at hs
 · rename_i hp
   have sp := plan_spec hp
   have hn := hf.lt
   generalize levL ops = ls at hs sp
   generalize maskL ops = ms at hs sp
   refine wpIn_region_any hM ?_
   have main : ∀ (fuel : Nat) (listed : Array Bool) (a' : Act) (w' : World), listed.size = ops.size → listed.toList.countP (fun b => !b) = fuel →
       (∀ (i : Nat) (o : Oper), listed.getD i false = true → ops[i]? = some o → ∀ j, j ∈ edgesOf o → listed.getD j false = true) →
       Inv w0 P n ops ls φ h t a.defers (Cl P call n ops ls ms l) (fun j => listed.getD j false = true) a' w' → wpAnyIn (FW q) m P .any ops Q fuel listed a' w' := by
     intro fuel
     induction fuel with
     | zero =>
       intro listed a' w' hsz hcnt hcl inv
       have hall : ∀ j, j < ops.size → listed.getD j false = true := by
         intro j hj
         have hj' : j < listed.size := by omega
         have := List.countP_eq_zero.1 hcnt (listed[j]) (by simp)
         rw [Array.getD_eq_getD_getElem?, Array.getElem?_eq_getElem hj']
         simpa using this
       refine ⟨?_, ?_⟩
       · cases hr : Region.ready .any ops listed with
         | nil => rfl
         | cons i r =>
           have hi : i ∈ Region.ready .any ops listed := by rw [hr]; simp
           obtain ⟨h1, o, ho, _⟩ := mem_ready.1 hi
           have := hall i (Array.getElem?_eq_some_iff.1 ho).1
           have hi' : i < listed.size := by rw [hsz]; exact (Array.getElem?_eq_some_iff.1 ho).1
           rw [Array.getD_eq_getD_getElem?, Array.getElem?_eq_getElem hi'] at h1 this
           simp at h1 this
           rw [h1] at this; cases this
       · obtain ⟨t', h', φ', h1, h2, h3, h4, h5⟩ := fin_inv hn hall inv
         exact hQ t' h' φ' a' w' h1 h2 h3 h4 h5
     | succ fuel ih =>
       intro listed a' w' hsz hcnt hcl inv
       refine ⟨fun hr => ?_, fun i hi => ?_⟩
       · exfalso
         have hex : ∃ j, j < listed.size ∧ listed.getD j true = false := by
           have hpos : 0 < listed.toList.countP (fun b => !b) := by omega
           obtain ⟨x, hx, hb⟩ := List.countP_pos_iff.1 hpos
           obtain ⟨j, hj, e⟩ := List.getElem_of_mem hx
           refine ⟨j, by simpa using hj, ?_⟩
           rw [Array.getD_eq_getD_getElem?, Array.getElem?_eq_getElem (by simpa using hj)]
           simp at hb e ⊢
           rw [e, hb]
         have least : ∀ {p : Nat → Prop}, (∃ m, p m) → ∃ m, p m ∧ ∀ k, p k → m ≤ k := by
           intro p hx
           obtain ⟨m, hm⟩ := hx
           induction m using Nat.strongRecOn with
           | _ m ih =>
             by_cases hx : ∃ k, k < m ∧ p k
             · obtain ⟨k, hk, hp⟩ := hx; exact ih k hk hp
             · exact ⟨m, hm, fun k hp => by
                rcases Nat.lt_or_ge k m with h | h
                · exact (hx ⟨k, h, hp⟩).elim
                · exact h⟩
         obtain ⟨j, ⟨hj, hf'⟩, hmin⟩ := least hex
         have hjo : j < ops.size := by omega
         have : j ∈ Region.ready .any ops listed := mem_ready.2 ⟨hf', ops[j], Array.getElem?_eq_getElem hjo, fun e he hb => by
           have hin : e.on ∈ edgesOf ops[j] := by
             unfold edgesOf
             exact List.mem_map.2 ⟨e, List.mem_filter.2 ⟨by simpa using he, hb⟩, rfl⟩
           have hlt := (sp.edge j _ e.on (Array.getElem?_eq_getElem hjo) hin).1
           have hl' : e.on < listed.size := by omega
           cases hv : listed.getD e.on false with
           | true => rfl
           | false =>
             have : listed.getD e.on true = false := by
               rw [Array.getD_eq_getD_getElem?, Array.getElem?_eq_getElem hl'] at hv ⊢
               simpa using hv
             have := hmin e.on ⟨hl', this⟩
             omega⟩
         rw [hr] at this; simp at this
       · obtain ⟨hun, o, ho, haft⟩ := mem_ready.1 hi
         have hil : i < listed.size := by rw [hsz]; exact (Array.getElem?_eq_some_iff.1 ho).1
         have hun' : ¬ listed.getD i false = true := by
           rw [Array.getD_eq_getD_getElem?, Array.getElem?_eq_getElem hil] at hun ⊢
           simp at hun ⊢
           exact hun
         have hrd : ∀ j, j ∈ edgesOf o → listed.getD j false = true := by
           intro j hj
           unfold edgesOf at hj
           obtain ⟨e, he, rfl⟩ := List.mem_map.1 hj
           obtain ⟨h5, h6⟩ := List.mem_filter.1 he
           exact haft e (by simpa using h5) h6
         have hset : (fun j => (listed.setIfInBounds i true).getD j false = true) = fun j => listed.getD j false = true ∨ j = i := by
           funext j
           apply propext
           by_cases e : j = i
           · subst e
             simp [Array.getD_eq_getD_getElem?, hil]
           · rw [getD_set_ne false (fun x => e x.symm)]
             simp [e]
         suffices hK : ∀ a2 w2, Inv w0 P n ops ls φ h t a.defers (Cl P call n ops ls ms l) (fun j => listed.getD j false = true ∨ j = i) a2 w2 → _ from step_inv hN hc sp hn hcl inv ho hun' hrd (fun hE => cl_step sp ho hE) (fun _ => hK) (fun _ => hK)
         intro a2 w2 inv2
         refine ih _ a2 w2 (by simp [hsz]) ?_ ?_ (by rw [hset]; exact inv2)
         · have := countF_set hun; omega
         · intro k o' hk ho' j hj
           have h5 : listed.getD k false = true ∨ k = i := by rw [← congrFun hset k]; exact hk
           have h6 : listed.getD j false = true := by
             rcases h5 with h5 | h5
             · exact hcl k o' h5 ho' j hj
             · subst h5
               rw [ho] at ho'; cases ho'
               exact hrd j hj
           have : listed.getD j false = true ∨ j = i := .inl h6
           rw [← congrFun hset j] at this
           exact this
   have hz : ∀ j, (Array.replicate ops.size false).getD j false = false := by
     intro j
     rw [Array.getD_eq_getD_getElem?, Array.getElem?_replicate]
     split <;> rfl
   refine main _ _ a _ (by simp) ?_ (fun i o hi => by rw [hz] at hi; cases hi) ?_
   · rw [Array.toList_replicate, List.countP_replicate]
     simp
   · refine enter_inv sp hn (φ := φ) (b := fun i => 2 * i + 1) ⟨fun i _ hl => ?_, fun i _ _ hd => ?_, hr.drew, .refl φ h, hf.size, fun s u j _ hl => ?_, fun s u hu _ => hf.get s u hu, rfl, fun _ _ => rfl, fun i o _ _ hd => ?_, fun i j _ _ _ _ hd => ?_, fun i _ _ hd => ?_, fun i o _ _ hd => ?_⟩ (enter_cl hs (fun x hx => hx))
     · rw [hz] at hl; cases hl
     · exact (Nat.not_lt_zero _ hd).elim
     · rw [hz] at hl; cases hl
     · exact (Nat.not_lt_zero _ hd).elim
     · exact (Nat.not_lt_zero _ hd).elim
     · exact (Nat.not_lt_zero _ hd).elim
     · exact (Nat.not_lt_zero _ hd).elim
 · unfold aDrawP at hs
   split at hs
   · cases hs
   · exact draw2_okS hN hM hc hs hr hf hQ
theorem draw_ok (hN : NoCount P) (hM : P.follows .mixedOrders = true) {call : Call1} (hc : CallsOk w0 P call) {id : Nat} {l : List (T Value × AH)} {a : Act} {q : Option Nat} {m : Nat} {Q : Exit → Act → World → Prop}
  (hs : aDraw P call n ops t h = some l) (hr : R w0 φ h w) (hf : FR φ n t a.tmps)
  (hQ : ∀ t' h' φ' (a' : Act) w', (t', h') ∈ l → Nx φ φ' h h' → R w0 φ' h' w' → FR φ' n t' a'.tmps → a'.defers = a.defers → Q .normal a' w') : (Code.region id ops true).wpIn (FW q) m P Q a w :=
 draw_okS hN hM (fun _ _ _ _ _ _ _ _ _ _ hs _ hr hf _ _ hK => step_ok hN hc hr hf hs hK) hs hr hf hQ
end
end Go.X
namespace Go.X
noncomputable section
open Go Go.RowKit
variable {w0 w : World} {φ φ' : Phi} {h h' : AH} {P : Program} {n : Nat} {t t' u : T Value}
def joinVs (f : Value → Value → Option Value) : List Value → List Value → Option (List Value)
 | [], [] => some []
 | a :: l, b :: m => (match f a b, joinVs f l m with
  | some x, some y => some (x :: y)
  | _, _ => none)
 | _, _ => none
def topOk (a : Value) : Bool := a.oneCell' && notBool a
def joinV : Nat → Value → Value → Option Value
 | 0, a, b => (match veq 9 a b with
  | true => some a
  | false => (match topOk a && topOk b with
   | true => some (.chan none)
   | false => none))
 | k + 1, a, b => (match veq 9 a b with
  | true => some a
  | false => (match a, b with
   | .tuple ⟨l⟩, .tuple ⟨m⟩ => (match joinVs (joinV k) l m with
    | some x => some (.tuple ⟨x⟩)
    | none => none)
   | .agg ⟨l⟩, .agg ⟨m⟩ => (match joinVs (joinV k) l m with
    | some x => some (.agg ⟨x⟩)
    | none => none)
   | a, b => (match topOk a && topOk b with
    | true => some (.chan none)
    | false => none)))
theorem joinVs_ok {f : Value → Value → Option Value} (hf : ∀ a b c, f a b = some c → ∀ φ v, (VR φ a v → VR φ c v) ∧ (VR φ b v → VR φ c v)) : ∀ {l m x : List Value}, joinVs f l m = some x → ∀ φ v, (LR φ l v → LR φ x v) ∧ (LR φ m v → LR φ x v)
 | [], [], x, h, φ, v => by cases h; exact ⟨id, id⟩
 | a :: l, b :: m, x, h, φ, v => by
  unfold joinVs at h
  split at h
  · rename_i c y hc hy
    cases h
    refine ⟨fun k => ?_, fun k => ?_⟩
    · cases k with
      | cons k1 k2 => exact .cons ((hf _ _ _ hc _ _).1 k1) ((joinVs_ok hf hy _ _).1 k2)
    · cases k with
      | cons k1 k2 => exact .cons ((hf _ _ _ hc _ _).2 k1) ((joinVs_ok hf hy _ _).2 k2)
  · cases h
 | [], _ :: _, x, h, φ, v => by cases h
 | _ :: _, [], x, h, φ, v => by cases h
theorem top_of {φ : Phi} {a v : Value} (ha : topOk a = true) (h : VR φ a v) : VR φ (.chan none) v := by
 unfold topOk at ha
 rw [Bool.and_eq_true] at ha
 exact .top v (h.one.trans ha.1) (h.nb.trans ha.2)
theorem joinV_ok : ∀ (k : Nat) (a b c : Value), joinV k a b = some c → ∀ φ v, (VR φ a v → VR φ c v) ∧ (VR φ b v → VR φ c v)
 | 0, a, b, c, h, φ, v => by
  unfold joinV at h
  split at h
  · rename_i he
    cases h
    rw [veq_eq _ _ _ he]; exact ⟨id, id⟩
  · split at h
    · rename_i ht
      cases h
      rw [Bool.and_eq_true] at ht
      exact ⟨top_of ht.1, top_of ht.2⟩
    · cases h
 | k + 1, a, b, c, h, φ, v => by
  unfold joinV at h
  split at h
  · rename_i he
    cases h
    rw [veq_eq _ _ _ he]; exact ⟨id, id⟩
  · split at h
    · rename_i l m
      split at h
      · rename_i x hx
        cases h
        have e := joinVs_ok (joinV_ok k) hx φ
        refine ⟨fun h => ?_, fun h => ?_⟩
        · obtain ⟨l', rfl, hl⟩ := VR.tuple_inv h
          exact .tuple' ((e l').1 hl)
        · obtain ⟨l', rfl, hl⟩ := VR.tuple_inv h
          exact .tuple' ((e l').2 hl)
      · cases h
    · rename_i l m
      split at h
      · rename_i x hx
        cases h
        have e := joinVs_ok (joinV_ok k) hx φ
        refine ⟨fun h => ?_, fun h => ?_⟩
        · cases h with
          | agg ha hh => exact .agg' ((e _).1 (LR.of ha hh))
        · cases h with
          | agg ha hh => exact .agg' ((e _).2 (LR.of ha hh))
      · cases h
    · split at h
      · rename_i ht
        cases h
        rw [Bool.and_eq_true] at ht
        exact ⟨top_of ht.1, top_of ht.2⟩
      · cases h
def joinOV : Option Value → Option Value → Option (Option Value)
 | none, none => some none
 | some a, some b => (match joinV 3 a b with
  | some c => some (some c)
  | none => none)
 | _, _ => none
def joinF : T Value → T Value → Option (T Value)
 | .e, .e => some .e
 | .n l v r, .n l' v' r' => (match joinOV v v', joinF l l', joinF r r' with
  | some x, some y, some z => some (.n y x z)
  | _, _, _ => none)
 | _, _ => none
theorem get_e {α : Type} (k : Nat) : (T.e : T α).get k = none := rfl
theorem joinF_get : ∀ {t t' u : T Value}, joinF t t' = some u → ∀ k, joinOV (t.get k) (t'.get k) = some (u.get k)
 | .e, .e, u, h, k => by cases h; rfl
 | .n l v r, .n l' v' r', u, h, k => by
  unfold joinF at h
  split at h
  · rename_i x y z hx hy hz
    cases h
    rw [T.get_n, T.get_n, T.get_n]
    by_cases e : k = 0
    · rw [if_pos e, if_pos e, if_pos e]; exact hx
    · rw [if_neg e, if_neg e, if_neg e]
      by_cases e2 : k % 2 = 1
      · rw [if_pos e2, if_pos e2, if_pos e2]; exact joinF_get hz _
      · rw [if_neg e2, if_neg e2, if_neg e2]; exact joinF_get hy _
  · cases h
 | .e, .n .., u, h, k => by cases h
 | .n .., .e, u, h, k => by cases h
theorem joinF_ok (hj : joinF t t' = some u) {a : Array Value} : (FR φ n t a → FR φ n u a) ∧ (FR φ n t' a → FR φ n u a) := by
 have key : ∀ k v, (VR φ ((t.get k).getD undef) v → VR φ ((u.get k).getD undef) v) ∧ (VR φ ((t'.get k).getD undef) v → VR φ ((u.get k).getD undef) v) := by
  intro k v
  have := joinF_get hj k
  unfold joinOV at this
  split at this
  · rename_i e1 e2
    injection this with this
    rw [e1, e2, ← this]; exact ⟨id, id⟩
  · rename_i a b e1 e2
    split at this
    · rename_i c hc
      injection this with this
      rw [e1, e2, ← this]
      exact joinV_ok 3 a b c hc φ v
    · cases this
  · cases this
 exact ⟨fun f => ⟨f.size, f.lt, fun k v hk => (key k v).1 (f.get k v hk)⟩, fun f => ⟨f.size, f.lt, fun k v hk => (key k v).2 (f.get k v hk)⟩⟩
def asBag : AObj → Option (List (ByteArray × Value))
 | .map es _ false => bagOf es
 | .bag es => some es
 | _ => none
def diffO : AObj → AObj → Bool
 | .map es _ _, .map es' _ _ => !Nat.beq es.length es'.length
 | .map _ _ _, .bag _ => true
 | .iter _ _ s _, .iter _ _ s' _ => !Nat.beq s.length s'.length
 | _, _ => false
theorem diffO_ne {a b : AObj} (h : diffO a b = true) : a ≠ b := by
 rintro rfl
 have e : ∀ k : Nat, Nat.beq k k = true := Nat.beq_refl
 cases a <;> simp only [diffO, e, Bool.not_true] at h <;> cases h
def join2 (a b : AObj) : Option AObj := match asBag a, asBag b with
 | some m, some m' => (match sameBag m m' with
  | true => some (.bag m)
  | false => none)
 | _, _ => none
def joinOb (x o o' : Option AObj) : Option (Option AObj) := match o, o' with
 | none, none => some none
 | some a, some b => (match sameO a b with
  | true => some (some a)
  | false => (match x with
   | none => some (join2 a b)
   | some x => (match diffO x a && diffO x b with
    | true => some (join2 a b)
    | false => none)))
 | some a, none => (match x with
  | none => some none
  | some x => (match diffO x a with
   | true => some none
   | false => none))
 | none, some b => (match x with
  | none => some none
  | some x => (match diffO x b with
   | true => some none
   | false => none))
theorem asBag_or {a : AObj} {m : List (ByteArray × Value)} (h : asBag a = some m) {i : Im} (k : OR φ i w a) : OR φ i w (.bag m) ∧ a.ro = false := by
 unfold asBag at h
 split at h
 · rename_i es cl
   obtain ⟨arr, g1, g2⟩ := k
   exact ⟨⟨arr, cl, es, g1, g2, bagOf_perm h⟩, rfl⟩
 · cases h; exact ⟨k, rfl⟩
 · cases h
def Cov (o r : Option AObj) : Prop := ∀ b, r = some b → ∃ a, o = some a ∧ a.ro = b.ro ∧ ∀ φ w i, OR φ i w a → OR φ i w b
theorem Cov.none (o : Option AObj) : Cov o none := fun b h => by cases h
theorem Cov.self (o : Option AObj) : Cov o o := fun b h => ⟨b, h, rfl, fun _ _ _ k => k⟩
theorem join2_cov (a b : AObj) : Cov (some a) (join2 a b) ∧ Cov (some b) (join2 a b) := by
 unfold join2
 split
 · rename_i m m' ha hb
   split
   · rename_i hs
     have e := sameBag_ok hs
     subst e
     refine ⟨fun c hc => ?_, fun c hc => ?_⟩
     · cases hc
       have ro : a.ro = false := by
        unfold asBag at ha
        split at ha <;> first | rfl | (cases ha)
       exact ⟨a, rfl, ro, fun φ w i k => (asBag_or ha k).1⟩
     · cases hc
       have ro : b.ro = false := by
        unfold asBag at hb
        split at hb <;> first | rfl | (cases hb)
       exact ⟨b, rfl, ro, fun φ w i k => (asBag_or hb k).1⟩
   · exact ⟨.none _, .none _⟩
 · exact ⟨.none _, .none _⟩
theorem joinOb_cov {x o o' r : Option AObj} (h : joinOb x o o' = some r) : (Cov o r ∧ (o = x → r = x)) ∧ (Cov o' r ∧ (o' = x → r = x)) := by
 unfold joinOb at h
 split at h
 · cases h; exact ⟨⟨.none _, id⟩, ⟨.none _, id⟩⟩
 · rename_i a b
   split at h
   · rename_i hs
     cases h
     have e := sameO_ok _ _ hs
     subst e
     exact ⟨⟨.self _, id⟩, ⟨.self _, id⟩⟩
   · split at h
     · cases h
       exact ⟨⟨(join2_cov a b).1, fun e => by cases e⟩, ⟨(join2_cov a b).2, fun e => by cases e⟩⟩
     · rename_i x
       split at h
       · rename_i hd
         cases h
         rw [Bool.and_eq_true] at hd
         exact ⟨⟨(join2_cov a b).1, fun e => by cases e; exact (diffO_ne hd.1 rfl).elim⟩, ⟨(join2_cov a b).2, fun e => by cases e; exact (diffO_ne hd.2 rfl).elim⟩⟩
       · cases h
 · rename_i a
   split at h
   · cases h
     exact ⟨⟨.none _, fun e => by cases e⟩, ⟨.none _, id⟩⟩
   · rename_i x
     split at h
     · rename_i hd
       cases h
       exact ⟨⟨.none _, fun e => by cases e; exact (diffO_ne hd rfl).elim⟩, ⟨.none _, fun e => by cases e⟩⟩
     · cases h
 · rename_i b
   split at h
   · cases h
     exact ⟨⟨.none _, id⟩, ⟨.none _, fun e => by cases e⟩⟩
   · rename_i x
     split at h
     · rename_i hd
       cases h
       exact ⟨⟨.none _, fun e => by cases e⟩, ⟨.none _, fun e => by cases e; exact (diffO_ne hd rfl).elim⟩⟩
     · cases h
def leftT {α : Type} : T α → T α
 | .e => .e
 | .n l _ _ => l
def midT {α : Type} : T α → Option α
 | .e => none
 | .n _ v _ => v
def rightT {α : Type} : T α → T α
 | .e => .e
 | .n _ _ r => r
theorem get_parts {α : Type} (x : T α) (k : Nat) : x.get k = if k = 0 then midT x else if k % 2 = 1 then (rightT x).get (k / 2) else (leftT x).get (k / 2 - 1) := by
 cases x with
 | e => simp only [midT, rightT, leftT, get_e]; split <;> first | rfl | (split <;> rfl)
 | n l v r => rw [T.get_n]; rfl
def joinM : T AObj → T AObj → T AObj → Option (T AObj)
 | _, .e, .e => some .e
 | x, .n l v r, .n l' v' r' => (match joinOb (midT x) v v', joinM (leftT x) l l', joinM (rightT x) r r' with
  | some a, some b, some c => some (.n b a c)
  | _, _, _ => none)
 | _, _, _ => none
theorem joinM_get : ∀ {x t t' u : T AObj}, joinM x t t' = some u → ∀ k, joinOb (x.get k) (t.get k) (t'.get k) = some (u.get k)
 | x, .e, .e, u, h, k => by
  unfold joinM at h
  cases h; rfl
 | x, .n l v r, .n l' v' r', u, h, k => by
  unfold joinM at h
  split at h
  · rename_i a b c ha hb hc
    cases h
    rw [T.get_n, T.get_n, T.get_n, get_parts x k]
    by_cases e : k = 0
    · rw [if_pos e, if_pos e, if_pos e, if_pos e]; exact ha
    · rw [if_neg e, if_neg e, if_neg e, if_neg e]
      by_cases e2 : k % 2 = 1
      · rw [if_pos e2, if_pos e2, if_pos e2, if_pos e2]; exact joinM_get hc _
      · rw [if_neg e2, if_neg e2, if_neg e2, if_neg e2]; exact joinM_get hb _
  · cases h
 | x, .e, .n .., u, h, k => by unfold joinM at h; cases h
 | x, .n .., .e, u, h, k => by unfold joinM at h; cases h
def joinH (h0 h h' : AH) : Option AH := match Nat.beq h.next h'.next, joinM h0.m h.m h'.m with
 | true, some m => some ⟨m, h.next⟩
 | _, _ => none
def CovH (h0 h q : AH) : Prop := (∀ w0 φ w, R w0 φ h w → R w0 φ q w) ∧ ∀ φ φ', Nx φ φ' h0 h → Nx φ φ' h0 q
theorem covH_of {h0 h q : AH} (hn : q.next = h.next) (hc : ∀ k, Cov (h.m.get k) (q.m.get k) ∧ (h.m.get k = h0.m.get k → q.m.get k = h0.m.get k)) : CovH h0 h q := by
 refine ⟨fun w0 φ w r => ⟨fun b i o hi ho => ?_, fun b i o hi ho hro => ?_, fun b b' i i' o o' hi hi' ho ho' hro hcc => ?_, fun b i hi => ⟨(r.lt b i hi).1, by rw [hn]; exact (r.lt b i hi).2⟩, trivial, r.below⟩,
   fun φ φ' nx => ⟨nx.le, by rw [hn]; exact nx.next, fun k hk hlt => ⟨(nx.ghost k hk hlt).1, (hc k).2 (nx.ghost k hk hlt).2⟩⟩⟩
 · obtain ⟨a, h1, h2, h3⟩ := (hc b).1 o ho
   exact h3 φ w i (r.dom b i a hi h1)
 · obtain ⟨a, h1, h2, h3⟩ := (hc b).1 o ho
   exact r.low b i a hi h1 (h2.trans hro)
 · obtain ⟨a, h1, h2, h3⟩ := (hc b).1 o ho
   obtain ⟨a', h4, h5, h6⟩ := (hc b').1 o' ho'
   exact r.inj b b' i i' a a' hi hi' h1 h4 (h2.trans hro) hcc
theorem joinH_ok {h0 h h' q : AH} (hj : joinH h0 h h' = some q) : CovH h0 h q ∧ CovH h0 h' q := by
 unfold joinH at hj
 split at hj
 · rename_i m hn hm
   cases hj
   have hn := Nat.eq_of_beq_eq_true hn
   have g := joinM_get hm
   exact ⟨covH_of rfl (fun k => (joinOb_cov (g k)).1), covH_of hn (fun k => (joinOb_cov (g k)).2)⟩
 · cases hj
end
end Go.X
namespace Go.X
noncomputable section
open Go Go.RowKit
variable {w0 w w' : World} {φ φ' : Phi} {h h' : AH} {P : Program} {n : Nat} {t : T Value} {bs : List Deferred}
inductive Ex where
 | normal
 | exit (id : Nat)
 | ret
inductive ExR : Ex → Exit → Prop
 | normal : ExR .normal .normal
 | exit (id : Nat) : ExR (.exit id) (.exit id)
 | ret : ExR .ret .ret
structure Out where
 ex : Ex
 t : T Value
 ds : List Nat
 h : AH
abbrev COuts := Option (List Out)
def exSame : Ex → Ex → Bool
 | .normal, .normal => true
 | .ret, .ret => true
 | .exit a, .exit b => Nat.beq a b
 | _, _ => false
theorem exSame_ok {a b : Ex} (h : exSame a b = true) : a = b := by
 unfold exSame at h
 split at h
 · rfl
 · rfl
 · rw [Nat.eq_of_beq_eq_true h]
 · cases h
def joinO (h0 : AH) (o p : Out) : Option Out := match exSame o.ex p.ex && sameNs o.ds p.ds with
 | true => (match joinF o.t p.t, joinH h0 o.h p.h with
  | some t, some h => some ⟨o.ex, t, o.ds, h⟩
  | _, _ => none)
 | false => none
def CovO (h0 : AH) (o q : Out) : Prop := q.ex = o.ex ∧ q.ds = o.ds ∧ (∀ φ n a, FR φ n o.t a → FR φ n q.t a) ∧ CovH h0 o.h q.h
theorem CovO.refl (h0 : AH) (o : Out) : CovO h0 o o := ⟨rfl, rfl, fun _ _ _ h => h, fun _ _ _ h => h, fun _ _ h => h⟩
theorem CovO.trans {h0 : AH} {o p q : Out} (a : CovO h0 o p) (b : CovO h0 p q) : CovO h0 o q :=
 ⟨b.1.trans a.1, b.2.1.trans a.2.1, fun φ n x h => b.2.2.1 φ n x (a.2.2.1 φ n x h), fun w0 φ w h => b.2.2.2.1 w0 φ w (a.2.2.2.1 w0 φ w h), fun φ φ' h => b.2.2.2.2 φ φ' (a.2.2.2.2 φ φ' h)⟩
theorem joinO_ok {h0 : AH} {o p q : Out} (h : joinO h0 o p = some q) : CovO h0 o q ∧ CovO h0 p q := by
 unfold joinO at h
 split at h
 · rename_i hs
   rw [Bool.and_eq_true] at hs
   have e1 := exSame_ok hs.1
   have e2 := sameNs_ok hs.2
   split at h
   · rename_i t q' ht hq
     cases h
     obtain ⟨c1, c2⟩ := joinH_ok hq
     exact ⟨⟨rfl, rfl, fun _ _ _ f => (joinF_ok ht).1 f, c1⟩, ⟨e1, e2, fun _ _ _ f => (joinF_ok ht).2 f, c2⟩⟩
   · cases h
 · cases h
def insJ (h0 : AH) (o : Out) : List Out → List Out
 | [] => [o]
 | p :: r => (match joinO h0 o p with
  | some q => q :: r
  | none => p :: insJ h0 o r)
theorem insJ_ok (h0 : AH) (o : Out) : ∀ (l : List Out), (∃ q, q ∈ insJ h0 o l ∧ CovO h0 o q) ∧ ∀ p, p ∈ l → ∃ q, q ∈ insJ h0 o l ∧ CovO h0 p q
 | [] => ⟨⟨o, List.mem_singleton.2 rfl, .refl h0 o⟩, fun p hp => by cases hp⟩
 | p :: r => by
  unfold insJ
  split
  · rename_i q hq
    obtain ⟨c1, c2⟩ := joinO_ok hq
    refine ⟨⟨q, List.mem_cons_self, c1⟩, fun x hx => ?_⟩
    rcases List.mem_cons.1 hx with rfl | hx
    · exact ⟨q, List.mem_cons_self, c2⟩
    · exact ⟨x, List.mem_cons_of_mem _ hx, .refl h0 x⟩
  · obtain ⟨⟨q, h1, h2⟩, h3⟩ := insJ_ok h0 o r
    refine ⟨⟨q, List.mem_cons_of_mem _ h1, h2⟩, fun x hx => ?_⟩
    rcases List.mem_cons.1 hx with rfl | hx
    · exact ⟨x, List.mem_cons_self, .refl h0 x⟩
    · obtain ⟨q, h4, h5⟩ := h3 x hx
      exact ⟨q, List.mem_cons_of_mem _ h4, h5⟩
def joinAll (h0 : AH) (l : List Out) : List Out := l.foldr (insJ h0) []
theorem joinAll_ok (h0 : AH) : ∀ {l : List Out} {o : Out}, o ∈ l → ∃ q, q ∈ joinAll h0 l ∧ CovO h0 o q
 | x :: l, o, ho => by
  show ∃ q, q ∈ insJ h0 x (joinAll h0 l) ∧ CovO h0 o q
  obtain ⟨h1, h2⟩ := insJ_ok h0 x (joinAll h0 l)
  rcases List.mem_cons.1 ho with rfl | ho
  · exact h1
  · obtain ⟨q, h3, h4⟩ := joinAll_ok h0 ho
    obtain ⟨q2, h5, h6⟩ := h2 q h3
    exact ⟨q2, h5, h4.trans h6⟩
def jn (h0 : AH) : COuts → COuts
 | some (o :: p :: l) => some (joinAll h0 (o :: p :: l))
 | x => x
theorem jn_ok {h0 : AH} {x : COuts} {l : List Out} (h : jn h0 x = some l) : ∃ l0, x = some l0 ∧ ∀ o, o ∈ l0 → ∃ q, q ∈ l ∧ CovO h0 o q := by
 unfold jn at h
 split at h
 · rename_i o p r
   cases h
   exact ⟨_, rfl, fun o ho => joinAll_ok h0 ho⟩
 · exact ⟨l, h, fun o ho => ⟨o, ho, .refl h0 o⟩⟩
def firstNext : Code → Bool
 | .seq x _ => firstNext x
 | .region _ ops _ => (match ops[0]? with
  | some o => (match o.op with
   | .next _ false => true
   | _ => false)
  | none => false)
 | _ => false
def hasUpd : Code → Bool
 | .seq x y => hasUpd x || hasUpd y
 | .cond _ x y => hasUpd x || hasUpd y
 | .block _ x => hasUpd x
 | .loop x => hasUpd x
 | .region _ ops _ => ops.toList.any fun o => (match o.op with
  | .mapUpdate _ _ _ _ => true
  | _ => false)
 | _ => false
def isRange : Code → Bool
 | .loop c => firstNext c && hasUpd c
 | _ => false
inductive DR (bs : List Deferred) (φ : Phi) : List Nat → List Deferred → Prop
 | nil : DR bs φ [] bs
 | cons {b : Nat} {i : Im} {l : List Nat} {l' : List Deferred} (hb : φ b = some i) (t : DR bs φ l l') : DR bs φ (b :: l) (⟨.collected i.c, #[]⟩ :: l')
theorem DR.mono (le : Le φ φ') {l : List Nat} {l' : List Deferred} (d : DR bs φ l l') : DR bs φ' l l' := by
 induction d with
 | nil => exact .nil
 | cons hb _ ih => exact .cons (le _ _ hb) ih
def Post (bs : List Deferred) (w0 : World) (φ : Phi) (h : AH) (n : Nat) (l : List Out) : Exit → Act → World → Prop := fun e a w =>
 ∃ o, o ∈ l ∧ ExR o.ex e ∧ ∃ φ', Nx φ φ' h o.h ∧ R w0 φ' o.h w ∧ FR φ' n o.t a.tmps ∧ DR bs φ' o.ds a.defers
theorem Post.sub {l l' : List Out} {e : Exit} {a : Act} (hs : ∀ o, o ∈ l → o ∈ l') (p : Post bs w0 φ h n l e a w) : Post bs w0 φ h n l' e a w := by
 obtain ⟨o, h1, r⟩ := p; exact ⟨o, hs o h1, r⟩
theorem Post.from {h0 : AH} {φ0 : Phi} {l : List Out} {e : Exit} {a : Act} (nx : Nx φ0 φ h0 h) (p : Post bs w0 φ h n l e a w) : Post bs w0 φ0 h0 n l e a w := by
 obtain ⟨o, h1, h2, φ', h3, r⟩ := p; exact ⟨o, h1, h2, φ', nx.trans h3, r⟩
def RoR (φ : Phi) : Option Nat → Option Nat → Prop
 | none, q => q = none
 | some b, q => ∃ i, φ b = some i ∧ q = some i.c
theorem RoR.mono (le : Le φ φ') {ro q : Option Nat} (x : RoR φ ro q) : RoR φ' ro q := by
 cases ro with
 | none => exact x
 | some b => obtain ⟨i, h1, h2⟩ := x; exact ⟨i, le _ _ h1, h2⟩
abbrev Ev := T Value → List Nat → AH → COuts
def thenX (y : Ev) (o : Out) : COuts := Ex.rec (motive := fun _ => COuts) (y o.t o.ds o.h) (fun _ => some [o]) (some [o]) o.ex
def cThen (x y : Ev) : Ev := fun t ds h => bindL (x t ds h) (thenX y)
def aLoop (body : T Value → List Nat → AH → COuts) (k : Nat) : T Value → List Nat → AH → COuts := Nat.rec (motive := fun _ => Ev) (fun _ _ _ => none) (fun _ ih => cThen body ih) k
theorem thenX_eq (y : Ev) (o : Out) : thenX y o = match o.ex with
  | .normal => y o.t o.ds o.h
  | _ => some [o] := by
 unfold thenX; cases o.ex <;> rfl
theorem aLoop_zero (body : Ev) (t : T Value) (ds : List Nat) (h : AH) : aLoop body 0 t ds h = none := rfl
theorem aLoop_succ (body : Ev) (k : Nat) (t : T Value) (ds : List Nat) (h : AH) : aLoop body (k + 1) t ds h = bindL (body t ds h) fun o => match o.ex with
  | .normal => aLoop body k o.t o.ds o.h
  | _ => some [o] := by
 show bindL (body t ds h) (thenX (aLoop body k)) = _
 congr 1; funext o; exact thenX_eq _ o
def exCode : Option Code → Option Ex
 | none => some .normal
 | some .ret => some .ret
 | some (.exit id) => some (.exit id)
 | _ => none
def yv (b : Nat) : Value := .func (.yield b) ⟨[]⟩ ⟨[]⟩
def aEnter (n : Nat) (ro : Option Nat) (t : T Value) (ps : List Tmp) (asg body : Code) (h : AH) : Option (Nat × List Nat × AH) := match ro with
 | some _ => none
 | none => (match h.newObj .dfr with
  | some (d, h1) => (match h1.newObj (.loop .ready none t n ps asg body) with
   | some (l, h2) => some (l, [d], h2)
   | none => none)
  | none => none)
theorem beq_nat {β : Type} (a b : Nat) (x y : β) : (Bool.rec (motive := fun _ => β) y x (Nat.beq a b) : β) = if a = b then x else y := T.beq_ite a b x y
def aCode0 (P : Program) (call : Call1) (n LF : Nat) (ro : Option Nat) : Code → T Value → List Nat → AH → COuts
 | .skip, t, ds, h => some [⟨.normal, t, ds, h⟩]
 | .label _, t, ds, h => some [⟨.normal, t, ds, h⟩]
 | .ret, t, ds, h => some [⟨.ret, t, ds, h⟩]
 | .exit id, t, ds, h => some [⟨.exit id, t, ds, h⟩]
 | .seq x y, t, ds, h => bindL (aCode0 P call n LF ro x t ds h) fun o => match o.ex with
  | .normal => aCode0 P call n LF ro y o.t o.ds o.h
  | _ => some [o]
 | .cond c x y, t, ds, h => match aO n t c with
  | some (.bool q) => if q then aCode0 P call n LF ro x t ds h else aCode0 P call n LF ro y t ds h
  | _ => none
 | .block id c, t, ds, h => (match isRange c with
  | true => jn h (bindL (aCode0 P call n LF ro c t ds h) fun o => match o.ex with
   | .exit k => if k = id then some [{ o with ex := .normal }] else some [o]
   | _ => some [o])
  | false => bindL (aCode0 P call n LF ro c t ds h) fun o => match o.ex with
   | .exit k => if k = id then some [{ o with ex := .normal }] else some [o]
   | _ => some [o])
 | .loop c, t, ds, h => aLoop (aCode0 P call n LF ro c) LF t ds h
 | .region _ ops draw, t, ds, h => bindL (if draw then aDraw P call n ops t h else aOps P call n ops ops.toList t h) fun p => some [⟨.normal, p.1, ds, p.2⟩]
 | .rangeFunc f ⟨ps⟩ asg body, t, ds, h => match aO n t f with
  | some (.func (.func g) ⟨first⟩ ⟨cap⟩) => (match aEnter n ro t ps asg body h with
   | some (l, ms, h2) => (match aCallF P g (first ++ [yv l] ++ cap) h2 with
    | some [(an, h3)] => bindL (call an h3) fun p => (match p.2.m.get l with
     | some (.loop st pend ts sz ps' asg' body') => (match st, exCode pend with
      | .busy, _ => none
      | _, some ex => some [⟨ex, t, ms ++ ds, { p.2 with m := (p.2.m.set l (some (.loop .exhausted pend ts sz ps' asg' body'))).set l none }⟩]
      | _, none => none)
     | _ => none)
    | _ => none)
   | none => none)
  | _ => none
 | _, _, _, _ => none
def cCond (n : Nat) (c : Operand) (x y : Ev) : Ev := fun t ds h => match aO n t c with
 | some (.bool q) => Bool.rec (motive := fun _ => COuts) (y t ds h) (x t ds h) q
 | _ => none
def outX (id : Nat) (o : Out) : COuts := match o.ex with
 | .exit k => Bool.rec (motive := fun _ => COuts) (some [o]) (some [{ o with ex := .normal }]) (Nat.beq k id)
 | _ => some [o]
def cBlock (id : Nat) (x : Ev) : Ev := fun t ds h => bindL (x t ds h) (outX id)
def jBlock (id : Nat) (x : Ev) : Ev := fun t ds h => jn h (cBlock id x t ds h)
def cBlockX (c : Code) (id : Nat) (x : Ev) : Ev := Bool.rec (motive := fun _ => Ev) (cBlock id x) (jBlock id x) (isRange c)
def cRegion (P : Program) (call : Call1) (n : Nat) (ops : Array Oper) (draw : Bool) : Ev := fun t ds h => bindL (Bool.rec (motive := fun _ => Option (List (T Value × AH))) (aOps P call n ops ops.toList t h) (aDraw P call n ops t h) draw) fun p => some [⟨.normal, p.1, ds, p.2⟩]
def aCode (P : Program) (call : Call1) (n LF : Nat) (ro : Option Nat) (c : Code) : Ev := Code.rec (motive := fun _ => Ev)
 (fun t ds h => some [⟨.normal, t, ds, h⟩])
 (fun _ ops draw => cRegion P call n ops draw)
 (fun _ _ x y => cThen x y)
 (fun c _ _ x y => cCond n c x y)
 (fun id c x => cBlockX c id x)
 (fun _ x => aLoop x LF)
 (fun f ps asg body _ _ => aCode0 P call n LF ro (.rangeFunc f ps asg body))
 (fun id t ds h => some [⟨.exit id, t, ds, h⟩])
 (fun _ _ _ _ _ => none)
 (fun _ t ds h => some [⟨.normal, t, ds, h⟩])
 (fun _ _ _ _ => none)
 (fun t ds h => some [⟨.ret, t, ds, h⟩])
 (fun _ _ _ _ => none) c
theorem aCode_eq (P : Program) (call : Call1) (n LF : Nat) (ro : Option Nat) : ∀ (c : Code), aCode P call n LF ro c = aCode0 P call n LF ro c
 | .skip => rfl
 | .region _ ops draw => by
  funext t ds h
  show cRegion P call n ops draw t ds h = _
  simp only [aCode0, cRegion]
  cases draw <;> rfl
 | .seq x y => by
  funext t ds h
  show cThen (aCode P call n LF ro x) (aCode P call n LF ro y) t ds h = _
  rw [aCode_eq P call n LF ro x, aCode_eq P call n LF ro y]
  simp only [aCode0, cThen]
  congr 1; funext o; exact thenX_eq _ o
 | .cond c x y => by
  funext t ds h
  show cCond n c (aCode P call n LF ro x) (aCode P call n LF ro y) t ds h = _
  rw [aCode_eq P call n LF ro x, aCode_eq P call n LF ro y]
  simp only [aCode0, cCond]
  split
  · rename_i q _; cases q <;> rfl
  · rfl
 | .block id x => by
  funext t ds h
  show cBlockX x id (aCode P call n LF ro x) t ds h = _
  rw [aCode_eq P call n LF ro x]
  have key : (outX id) = fun o => match o.ex with
      | .exit k => if k = id then some [{ o with ex := .normal }] else some [o]
      | _ => some [o] := by
    funext o
    unfold outX
    split
    · rename_i k _; rw [beq_nat]
    · rfl
  simp only [aCode0, cBlockX]
  cases isRange x with
  | true =>
    show jn h (bindL _ (outX id)) = _
    rw [key]
  | false =>
    show bindL _ (outX id) = _
    rw [key]
 | .loop x => by
  show aLoop (aCode P call n LF ro x) LF = _
  rw [aCode_eq P call n LF ro x]
  funext t ds h
  simp only [aCode0]
 | .rangeFunc f ps asg body => rfl
 | .exit _ => rfl
 | .scope _ => by funext t ds h; simp only [aCode0]; rfl
 | .label _ => rfl
 | .goto _ => by funext t ds h; simp only [aCode0]; rfl
 | .ret => rfl
 | .refuse _ => by funext t ds h; simp only [aCode0]; rfl
theorem wpIn_fuel {F : Fence} {m : Nat} {c : Code} {Q : Exit → Act → World → Prop} (J : Nat → Act → World → Prop) (k : Nat) {a : Act} {w : World} (h0 : J k a w)
    (round : ∀ k a w, J k a w → c.wpIn F m P (Exit.then (fun a' w' => ∃ k', k' < k ∧ J k' a' w') Q) a w) : (Code.loop c).wpIn F m P Q a w := by
  classical
  have least : ∀ {p : Nat → Prop}, (∃ m, p m) → ∃ m, p m ∧ ∀ k, p k → m ≤ k := by
    intro p hx
    obtain ⟨m, hm⟩ := hx
    induction m using Nat.strongRecOn with
    | _ m ih =>
      by_cases hx : ∃ k, k < m ∧ p k
      · obtain ⟨k, hk, hp⟩ := hx; exact ih k hk hp
      · exact ⟨m, hm, fun k hp => by
          rcases Nat.lt_or_ge k m with h | h
          · exact (hx ⟨k, h, hp⟩).elim
          · exact h⟩
  let I : Act → World → Prop := fun a w => ∃ m, J m a w
  let μ : Act → World → Nat := fun a w => if h : ∃ m, J m a w then Classical.choose (least h) else 0
  have hμ : ∀ a w (h : I a w), J (μ a w) a w ∧ ∀ k, J k a w → μ a w ≤ k := by
    intro a w h
    have e : μ a w = Classical.choose (least h) := dif_pos h
    rw [e]; exact Classical.choose_spec (least h)
  refine wpIn_loop I μ ⟨k, h0⟩ ?_
  intro a w hI
  obtain ⟨hJ, _⟩ := hμ a w hI
  refine wpIn_mono (round _ a w hJ) ?_
  intro e a' w' q
  cases e with
  | normal =>
    obtain ⟨m', hlt, hJ'⟩ := q
    exact ⟨⟨m', hJ'⟩, Nat.lt_of_le_of_lt ((hμ a' w' ⟨m', hJ'⟩).2 m' hJ') hlt⟩
  | _ => exact q
def CodeOk (w0 : World) (P : Program) (n : Nat) (ro : Option Nat) (c : Code) (ev : T Value → List Nat → AH → COuts) : Prop :=
 ∀ ⦃t : T Value⦄ ⦃ds : List Nat⦄ ⦃h : AH⦄ ⦃l : List Out⦄ ⦃φ : Phi⦄ ⦃a : Act⦄ ⦃w : World⦄ ⦃q : Option Nat⦄ ⦃bs : List Deferred⦄ (m : Nat), ev t ds h = some l → R w0 φ h w → FR φ n t a.tmps → DR bs φ ds a.defers → RoR φ ro q →
  c.wpIn (FW q) m P (Post bs w0 φ h n l) a w
theorem loop_ok {ro : Option Nat} {c : Code} {ev : T Value → List Nat → AH → COuts} (hc : CodeOk w0 P n ro c ev) (LF : Nat) : CodeOk w0 P n ro (.loop c) (aLoop ev LF) := by
 intro t ds h l φ a w q bs m hs hr hf hd hq
 refine wpIn_fuel (fun k a w => ∃ t ds h' l' φ', aLoop ev k t ds h' = some l' ∧ (∀ o, o ∈ l' → o ∈ l) ∧ Nx φ φ' h h' ∧ R w0 φ' h' w ∧ FR φ' n t a.tmps ∧ DR bs φ' ds a.defers) LF
  ⟨t, ds, h, l, φ, hs, fun o ho => ho, .refl φ h, hr, hf, hd⟩ ?_
 rintro k a w ⟨t, ds, h1, l1, φ1, hs1, hsub, nx1, r1, f1, d1⟩
 cases k with
 | zero => simp [aLoop_zero] at hs1
 | succ k =>
  simp only [aLoop_succ] at hs1
  obtain ⟨l2, h2, hall⟩ := bindL_spec hs1
  refine wpIn_mono (hc m h2 r1 f1 d1 (hq.mono nx1.le)) ?_
  rintro e a' w' ⟨o, ho, hex, φ2, nx2, r2, f2, d2⟩
  obtain ⟨k2, hk, hsub2⟩ := hall o ho
  obtain ⟨ex, t', ds', h'⟩ := o
  cases hex with
  | normal => exact ⟨k, Nat.lt_succ_self k, t', ds', h', k2, φ2, hk, fun o ho => hsub o (hsub2 o ho), nx1.trans nx2, r2, f2, d2⟩
  | exit id =>
   cases hk
   exact ⟨_, hsub _ (hsub2 _ (List.mem_singleton.2 rfl)), .exit id, φ2, nx1.trans nx2, r2, f2, d2⟩
  | ret =>
   cases hk
   exact ⟨_, hsub _ (hsub2 _ (List.mem_singleton.2 rfl)), .ret, φ2, nx1.trans nx2, r2, f2, d2⟩
end
end Go.X
namespace Go.X
noncomputable section
open Go Go.RowKit
variable {w0 w w' : World} {φ φ' : Phi} {h h' : AH} {P : Program} {n : Nat} {t : T Value}
theorem region_list {ops : Array Oper} {F : Fence} {m : Nat} {Q : Exit → Act → World → Prop} {id : Nat} {a : Act} (hh : wpOpsIn F m P ops Q (List.range ops.size) a w) : (Code.region id ops false).wpIn F m P Q a w := wpIn_region hh
theorem rangeFunc_ok (hN : NoCount P) {call : Call1} (hc : CallsOk w0 P call) {ro : Option Nat} {f : Operand} {ps : List Tmp} {asg body : Code} {LF : Nat} : CodeOk w0 P n ro (.rangeFunc f ⟨ps⟩ asg body) (aCode0 P call n LF ro (.rangeFunc f ⟨ps⟩ asg body)) := by
 intro t ds h l φ a w q bs m hs hr hf hd hq
 simp only [aCode0] at hs
 split at hs
 · rename_i g first cap hfv
   have hfv' := aO_ok hf hfv
   split at hs
   · rename_i lb ms h2 hen
     unfold aEnter at hen
     split at hen
     · cases hen
     · split at hen
       · rename_i d h1 hn1
         split at hen
         · rename_i lb' h2' hn2
           cases hen
           obtain rfl : q = none := hq
           refine wpIn_rangeFunc fun fn _ => ?_
           -- the blocks
           obtain ⟨φ1, nx1, hb1, r1⟩ := hr.newObj (x := .deferred (some [])) hn1 (fun φ' w' _ hw => hw)
           have hsz : (w.alloc (.deferred (some []))).heap.size = w.heap.size + 1 := by simp
           obtain ⟨φ2, nx2, hb2, r2⟩ := r1.newObj (x := .loop ⟨.ready, none, fn, a.tmps, ⟨ps⟩, asg, body, w.heap.size⟩) hn2 (fun φ' w' le hw => ⟨fn, a.tmps, w.heap.size, hw, (hf.mono nx1.le).mono le⟩)
           have nx12 := nx1.trans nx2
           generalize hev : a.eval f = u at hfv'
           cases hfv' with
           | @func _ fn' _ _ first' cap' hfn ha hb h3 h4 =>
            cases hfn with
            | same hns =>
             have hL1 : LR φ2 first first' := (LR.of ha h3).mono nx12.le
             have hL2 : LR φ2 cap cap' := (LR.of hb h4).mono nx12.le
             split at hs
             · rename_i an h3' hcf
               obtain ⟨heq, hcall⟩ := run_callF (args' := first' ++ [.func (.yield (w.heap.size + 1)) #[] #[]] ++ cap') hN hcf ((w.alloc (.deferred (some []))).alloc (.loop ⟨.ready, none, fn, a.tmps, ⟨ps⟩, asg, body, w.heap.size⟩))
               cases heq
               have hyv : VR φ2 (yv lb) (.func (.yield (w.heap.size + 1)) #[] #[]) := by
                 have hb2' : φ2 lb = some ⟨w.heap.size + 1, 0, 0, 0, 0⟩ := by rw [← hsz]; exact hb2
                 exact .func' (.yield ⟨w.heap.size + 1, 0, 0, 0, 0⟩ hb2') .nil .nil
               have hargs := (hL1.append (.cons hyv .nil)).append hL2
               obtain ⟨l0, h0, hall⟩ := bindL_spec hs
               refine ⟨w.heap.size + 1, [{ target := .collected w.heap.size, args := #[] }], ((w.alloc (.deferred (some []))).alloc (.loop ⟨.ready, none, fn, a.tmps, ⟨ps⟩, asg, body, w.heap.size⟩)), ⟨.fn (.func g) ⟨cap'⟩, ⟨first' ++ [.func (.yield (w.heap.size + 1)) #[] #[]]⟩⟩, ((w.alloc (.deferred (some []))).alloc (.loop ⟨.ready, none, fn, a.tmps, ⟨ps⟩, asg, body, w.heap.size⟩)), g, ⟨first' ++ [.func (.yield (w.heap.size + 1)) #[] #[]] ++ cap'⟩, ((w.alloc (.deferred (some []))).alloc (.loop ⟨.ready, none, fn, a.tmps, ⟨ps⟩, asg, body, w.heap.size⟩)), run_enterLoop_outer fn a.tmps ⟨ps⟩ asg body, ?_, fun f' _ => FW_fn none f', ?_, fun x => (by cases x), FW_calls (q := none) ?_⟩
               · simp only [resolve, hev, Deferred.ofValue, Sem.run_pure]
                 congr 2
                 apply Array.ext'
                 simp [Act.eval]
               · simp only [invoke]
                 have : (⟨first' ++ [.func (.yield (w.heap.size + 1)) #[] #[]]⟩ ++ ⟨cap'⟩ : Array Value) = ⟨first' ++ [.func (.yield (w.heap.size + 1)) #[] #[]] ++ cap'⟩ := by apply Array.ext'; simp
                 rw [this]
                 exact hcall
               · refine ((hc _ _ _ _ _ _ h0 r2 (.enter hargs)).1 _ _ rfl).mono ?_
                 rintro e w3 ⟨v', rfl, v, h5, hmem, φ3, nx3, r3, _⟩
                 obtain ⟨k, hk, hsub⟩ := hall _ hmem
                 dsimp only at hk
                 split at hk
                 · rename_i st pend ts sz ps' asg' body' ho
                   have hlb : φ3 lb = some ⟨w.heap.size + 1, 0, 0, 0, 0⟩ := nx3.le _ _ (by rw [← hsz]; exact hb2)
                   obtain ⟨fn0, arr0, df0, hw0, hfr0⟩ := r3.dom _ _ _ hlb ho
                   have fin : ∀ {ex : Ex}, st ≠ .busy → exCode pend = some ex → k = [⟨ex, t, [d] ++ ds, { h5 with m := (h5.m.set lb (some (.loop .exhausted pend ts sz ps' asg' body'))).set lb none }⟩] →
                      rangePost (FW none) m P (w.heap.size + 1) (Post bs w0 φ h n l) { a with defers := [{ target := .collected w.heap.size, args := #[] }] ++ a.defers } (.returned v') w3 := by
                     intro ex hst hex hkk
                     subst hkk
                     have hmem2 := hsub _ (List.mem_singleton.2 rfl)
                     refine ⟨pend, w3.putObj (w.heap.size + 1) (.loop ⟨.exhausted, pend, fn0, arr0, ⟨ps'⟩, asg', body', df0⟩), run_endLoop hw0 hst, ?_⟩
                     have r4 : R w0 φ3 { h5 with m := (h5.m.set lb (some (.loop .exhausted pend ts sz ps' asg' body'))).set lb none } (w3.putObj (w.heap.size + 1) (.loop ⟨.exhausted, pend, fn0, arr0, ⟨ps'⟩, asg', body', df0⟩)) :=
                      R.drop (r3.put (o' := .loop .exhausted pend ts sz ps' asg' body') hlb ho rfl (fun w' hw => ⟨fn0, arr0, df0, hw, hfr0⟩)) lb trivial
                     have nxx : Nx φ φ3 h { h5 with m := (h5.m.set lb (some (.loop .exhausted pend ts sz ps' asg' body'))).set lb none } :=
                      ((nx12.trans nx3).trans (Nx.put hlb trivial)).trans (Nx.drop hlb trivial)
                     have pst : ∀ {ee : Exit}, ExR ex ee → Post bs w0 φ h n l ee { a with defers := [{ target := .collected w.heap.size, args := #[] }] ++ a.defers } (w3.putObj (w.heap.size + 1) (.loop ⟨.exhausted, pend, fn0, arr0, ⟨ps'⟩, asg', body', df0⟩)) := by
                      intro ee hee
                      refine ⟨_, hmem2, hee, φ3, nxx, r4, hf.mono (nx12.trans nx3).le, ?_⟩
                      exact .cons (nx3.le _ _ (nx2.le _ _ hb1)) (hd.mono (nx12.trans nx3).le)
                     cases pend with
                     | none => simp only [exCode] at hex; cases hex; exact pst .normal
                     | some c =>
                      cases c <;> simp only [exCode] at hex <;> cases hex
                      · exact wpIn_exit (pst (.exit _))
                      · exact wpIn_ret (pst .ret)
                   split at hk
                   · cases hk
                   · rename_i x1 x2 ex hst hex
                     cases hk
                     exact fin hst hex rfl
                   · cases hk
                 · cases hk
             · cases hs
         · cases hen
       · cases hen
   · cases hs
 · cases hs
theorem code_ok0 (hN : NoCount P) (hM : P.follows .mixedOrders = true) {call : Call1} (hc : CallsOk w0 P call) (ro : Option Nat) (LF : Nat) : ∀ (c : Code), CodeOk w0 P n ro c (aCode0 P call n LF ro c)
 | .skip => by
  intro t ds h l φ a w q bs m hs hr hf hd hq
  simp only [aCode0] at hs; cases hs
  exact wpIn_skip ⟨_, List.mem_singleton.2 rfl, .normal, φ, .refl φ h, hr, hf, hd⟩
 | .label _ => by
  intro t ds h l φ a w q bs m hs hr hf hd hq
  simp only [aCode0] at hs; cases hs
  exact wpIn_label ⟨_, List.mem_singleton.2 rfl, .normal, φ, .refl φ h, hr, hf, hd⟩
 | .ret => by
  intro t ds h l φ a w q bs m hs hr hf hd hq
  simp only [aCode0] at hs; cases hs
  exact wpIn_ret ⟨_, List.mem_singleton.2 rfl, .ret, φ, .refl φ h, hr, hf, hd⟩
 | .exit id => by
  intro t ds h l φ a w q bs m hs hr hf hd hq
  simp only [aCode0] at hs; cases hs
  exact wpIn_exit ⟨_, List.mem_singleton.2 rfl, .exit id, φ, .refl φ h, hr, hf, hd⟩
 | .seq x y => by
  intro t ds h l φ a w q bs m hs hr hf hd hq
  simp only [aCode0] at hs
  obtain ⟨l0, h0, hall⟩ := bindL_spec hs
  refine wpIn_seq (wpIn_mono (code_ok0 hN hM hc ro LF x m h0 hr hf hd hq) ?_)
  rintro e a' w' ⟨o, ho, hex, φ1, nx1, r1, f1, d1⟩
  obtain ⟨k, hk, hsub⟩ := hall _ ho
  obtain ⟨ex, t1, ds1, h1⟩ := o
  cases hex with
  | normal => exact wpIn_mono (code_ok0 hN hM hc ro LF y m hk r1 f1 d1 (hq.mono nx1.le)) (fun e a w p => (p.sub hsub).from nx1)
  | exit id => cases hk; exact ⟨_, hsub _ (List.mem_singleton.2 rfl), .exit id, φ1, nx1, r1, f1, d1⟩
  | ret => cases hk; exact ⟨_, hsub _ (List.mem_singleton.2 rfl), .ret, φ1, nx1, r1, f1, d1⟩
 | .cond c x y => by
  intro t ds h l φ a w q bs m hs hr hf hd hq
  simp only [aCode0] at hs
  split at hs
  · rename_i b hb
    have hb' := (aO_ok hf hb).bool_inv
    refine wpIn_cond_split hb' (fun e => ?_) (fun e => ?_)
    · rw [if_pos e] at hs; exact code_ok0 hN hM hc ro LF x m hs hr hf hd hq
    · rw [if_neg (by simp [e])] at hs; exact code_ok0 hN hM hc ro LF y m hs hr hf hd hq
  · cases hs
 | .block id c => by
  intro t ds h l φ a w q bs m hs hr hf hd hq
  have core : ∀ {l : List Out}, (bindL (aCode0 P call n LF ro c t ds h) fun o => match o.ex with
      | .exit k => if k = id then some [{ o with ex := .normal }] else some [o]
      | _ => some [o]) = some l → (Code.block id c).wpIn (FW q) m P (Post bs w0 φ h n l) a w := by
    intro l hs
    obtain ⟨l0, h0, hall⟩ := bindL_spec hs
    refine wpIn_block (wpIn_mono (code_ok0 hN hM hc ro LF c m h0 hr hf hd hq) ?_)
    rintro e a' w' ⟨o, ho, hex, φ1, nx1, r1, f1, d1⟩
    obtain ⟨k, hk, hsub⟩ := hall _ ho
    obtain ⟨ex, t1, ds1, h1⟩ := o
    cases hex with
    | normal => cases hk; exact ⟨_, hsub _ (List.mem_singleton.2 rfl), .normal, φ1, nx1, r1, f1, d1⟩
    | exit j =>
      dsimp only at hk
      simp only [Exit.inBlock]
      by_cases hj : j = id
      · rw [if_pos hj] at hk ⊢; cases hk; exact ⟨_, hsub _ (List.mem_singleton.2 rfl), .normal, φ1, nx1, r1, f1, d1⟩
      · rw [if_neg hj] at hk ⊢; cases hk; exact ⟨_, hsub _ (List.mem_singleton.2 rfl), .exit j, φ1, nx1, r1, f1, d1⟩
    | ret => cases hk; exact ⟨_, hsub _ (List.mem_singleton.2 rfl), .ret, φ1, nx1, r1, f1, d1⟩
  simp only [aCode0] at hs
  split at hs
  · obtain ⟨l0, h0, hcov⟩ := jn_ok hs
    refine wpIn_mono (core h0) ?_
    rintro e a' w' ⟨o, ho, hex, φ1, nx1, r1, f1, d1⟩
    obtain ⟨q, hq, c1, c2, c3, c4, c5⟩ := hcov o ho
    exact ⟨q, hq, by rw [c1]; exact hex, φ1, c5 _ _ nx1, c4 _ _ _ r1, c3 _ _ _ f1, by rw [c2]; exact d1⟩
  · exact core hs
 | .loop c => loop_ok (code_ok0 hN hM hc ro LF c) LF
 | .region id ops draw => by
  intro t ds h l φ a w q bs m hs hr hf hd hq
  simp only [aCode0] at hs
  obtain ⟨l0, h0, hall⟩ := bindL_spec hs
  have fin : ∀ t' h' φ' (a' : Act) w', (t', h') ∈ l0 → Nx φ φ' h h' → R w0 φ' h' w' → FR φ' n t' a'.tmps → a'.defers = a.defers → Post bs w0 φ h n l .normal a' w' := by
    intro t' h' φ' a' w' hm nx' r' f' d'
    obtain ⟨k, hk, hsub⟩ := hall _ hm
    cases hk
    exact ⟨_, hsub _ (List.mem_singleton.2 rfl), .normal, φ', nx', r', f', by rw [d']; exact hd.mono nx'.le⟩
  cases draw with
  | true => exact draw_ok hN hM hc h0 hr hf fin
  | false => exact region_list (ops_ok hN hc h0 hr hf fin)
 | .rangeFunc f ps asg body => by obtain ⟨ps⟩ := ps; exact rangeFunc_ok hN hc
 | .scope c => by intro t ds h l φ a w q bs m hs hr hf hd hq; simp [aCode0] at hs
 | .goto c => by intro t ds h l φ a w q bs m hs hr hf hd hq; simp [aCode0] at hs
 | .refuse c => by intro t ds h l φ a w q bs m hs hr hf hd hq; simp [aCode0] at hs
theorem code_ok (hN : NoCount P) (hM : P.follows .mixedOrders = true) {call : Call1} (hc : CallsOk w0 P call) (ro : Option Nat) (LF : Nat) (c : Code) : CodeOk w0 P n ro c (aCode P call n LF ro c) := by
 rw [aCode_eq]; exact code_ok0 hN hM hc ro LF c
end
end Go.X
namespace Go.X
noncomputable section
open Go Go.RowKit
variable {w0 w w' : World} {φ φ' : Phi} {h h' : AH} {P : Program} {n : Nat} {t : T Value}
def aLeave : List Nat → AH → Option AH
 | [], h => some h
 | d :: ds, h => match h.m.get d with
  | some .dfr => aLeave ds { h with m := h.m.set d none }
  | _ => none
def aRes1 (P : Program) (n : Nat) (t : T Value) (h : AH) : ResultVar → Option Value
 | .tmp k => if k < n then some ((t.get k).getD undef) else none
 | .cell k T => if k < n then (match t.get k with
  | some (.pointer (some a)) => aLoad P T a h
  | _ => none) else none
def aResL (P : Program) (n : Nat) (t : T Value) (h : AH) : List ResultVar → Option (List Value)
 | [] => some []
 | x :: l => match aRes1 P n t h x, aResL P n t h l with
  | some v, some m => some (v :: m)
  | _, _ => none
def aRes (P : Program) (n : Nat) (t : T Value) (h : AH) (l : List ResultVar) : Option Value := match aResL P n t h l with
 | some [v] => some v
 | some l => some (.tuple ⟨l⟩)
 | none => none
def resF (a : Array Value) : ResultVar → Sem Value
 | .tmp t => pure (a.getD t undef)
 | .cell b T => do loadVar T (← asAddr (a.getD b undef))
def rslot : ResultVar → Nat
 | .tmp k => k
 | .cell k _ => k
def SR (φ : Phi) (n : Nat) (t : T Value) (a : Array Value) (l : List ResultVar) : Prop := ∀ x, x ∈ l → rslot x < n → VR φ ((t.get (rslot x)).getD undef) (a.getD (rslot x) undef)
theorem FR.sr {a : Array Value} (f : FR φ n t a) (l : List ResultVar) : SR φ n t a l := fun _x _ hk => f.at _ hk
theorem res1_ok (r : R w0 φ h w) {a : Array Value} {x : ResultVar} (f : rslot x < n → VR φ ((t.get (rslot x)).getD undef) (a.getD (rslot x) undef)) {v : Value} (hs : aRes1 P n t h x = some v) :
  ∃ v', (resF a x).run P w = .ok v' w ∧ VR φ v v' := by
 cases x with
 | tmp k =>
  simp only [aRes1] at hs
  split at hs
  · cases hs; exact ⟨_, rfl, f ‹_›⟩
  · cases hs
 | cell k T =>
  simp only [aRes1] at hs
  split at hs
  · rename_i hk
    split at hs
    · rename_i ad hg
      have hv := f hk
      simp only [rslot] at hv
      rw [hg] at hv
      simp only [Option.getD_some] at hv
      obtain ⟨i, hi, _, e⟩ := hv.ptr_inv
      obtain ⟨v', h1, h2⟩ := run_loadVar_at (P := P) r hi hs
      refine ⟨v', ?_, h2⟩
      simp only [resF, e, asAddr, Sem.run_bind, Sem.run_pure, Result.andThen_ok]
      exact h1
    · cases hs
  · cases hs
theorem res_okS (r : R w0 φ h w) {fn : Func} {a : Array Value} (f : SR φ n t a fn.results.toList) {v : Value} (hs : aRes P n t h fn.results.toList = some v) : ∃ v', (results fn a).run P w = .ok v' w ∧ VR φ v v' := by
 have key : ∀ (l : List ResultVar) {m : List Value}, SR φ n t a l → aResL P n t h l = some m → ∃ m', (l.mapM (m := Sem) (resF a)).run P w = .ok m' w ∧ LR φ m m' := by
   intro l
   induction l with
   | nil => intro m _ hm; simp only [aResL] at hm; cases hm; exact ⟨[], by simp, .nil⟩
   | cons x l ih =>
    intro m hf hm
    simp only [aResL] at hm
    split at hm
    · rename_i v1 m1 h1 h2
      cases hm
      obtain ⟨v', h3, h4⟩ := res1_ok r (hf x List.mem_cons_self) h1
      obtain ⟨m', h5, h6⟩ := ih (fun y hy => hf y (List.mem_cons_of_mem _ hy)) h2
      refine ⟨v' :: m', ?_, .cons h4 h6⟩
      rw [List.mapM_cons]
      simp only [Sem.run_bind, h3, Result.andThen_ok, h5, Sem.run_pure]
    · cases hm
 unfold aRes at hs
 have hm : ∃ m, aResL P n t h fn.results.toList = some m := by
   cases hq : aResL P n t h fn.results.toList with
   | none => rw [hq] at hs; simp at hs
   | some m => exact ⟨m, rfl⟩
 obtain ⟨m, hm⟩ := hm
 obtain ⟨m', h1, h2⟩ := key _ f hm
 have hrun : (fn.results.mapM (m := Sem) (resF a)).run P w = .ok ⟨m'⟩ w := by
   have e : fn.results = ⟨fn.results.toList⟩ := rfl
   rw [e]
   have e2 : (⟨fn.results.toList⟩ : Array ResultVar).mapM (m := Sem) (resF a) =
    List.toArray <$> (fn.results.toList.mapM (m := Sem) (resF a)) := List.mapM_toArray
   rw [e2]
   have e3 : ∀ (z : Sem (List Value)), (List.toArray <$> z : Sem (Array Value)) = z >>= fun l => pure l.toArray := fun z => rfl
   rw [e3, Sem.run_bind, h1, Result.andThen_ok]
   rfl
 rw [hm] at hs
 have hres : (results fn a).run P w = .ok (if hh : (⟨m'⟩ : Array Value).size = 1 then (⟨m'⟩ : Array Value)[0] else .tuple ⟨m'⟩) w := by
   have hdef : results fn a = ((fn.results.mapM (m := Sem) (resF a)) >>= fun vs => pure (if hh : vs.size = 1 then vs[0] else .tuple vs)) := by
    unfold results
    congr 1
   rw [hdef]
   rw [Sem.run_bind, hrun, Result.andThen_ok]
   rfl
 split at hs
 · rename_i v1 e
   cases e
   cases hs
   obtain ⟨u, rfl, hu⟩ := h2.one_inv
   exact ⟨u, by rw [hres]; rfl, hu⟩
 · rename_i l hne e
   cases e
   cases hs
   have hl := h2.length
   have : ¬ (⟨m'⟩ : Array Value).size = 1 := by
    intro h1
    have h1' : m'.length = 1 := h1
    rw [← hl] at h1'
    match m, h1' with
    | [x], _ => exact hne x rfl
   exact ⟨_, by rw [hres, dif_neg this], .tuple' h2⟩
 · rename_i e; cases e
theorem res_ok (r : R w0 φ h w) {fn : Func} {a : Array Value} (f : FR φ n t a) {v : Value} (hs : aRes P n t h fn.results.toList = some v) : ∃ v', (results fn a).run P w = .ok v' w ∧ VR φ v v' := res_okS r (f.sr _) hs
def putLoop (h : AH) (b : Nat) (o : AObj) : AH := { h with m := h.m.set b (some o) }
def aFun (P : Program) (LF : Nat) (call : Call1) : Call1 := fun an h => match an with
 | .enter f args => (match P.funcs[f]? with
  | some fn => (match fn.body with
   | some c => if args.length ≤ fn.ntmps then bindL (aCode P (call) fn.ntmps LF none c (T.fill args 0 .e) [] h) fun o => (match o.ex with
     | .exit _ => none
     | _ => (match aLeave o.ds o.h with
      | some h' => (match aRes P fn.ntmps o.t h' fn.results.toList with
       | some v => some [(v, h')]
       | none => none)
      | none => none)) else none
   | none => none)
  | none => none)
 | .round b ts sz asg body => bindL (aCode P (call) sz LF (some b) asg ts [] h) fun o => (match o.ex with
   | .normal => (match o.h.m.get b with
    | some (.loop .ready pend ts' sz' ps asg' body') => bindL (aCode P (call) sz LF (some b) body o.t o.ds (putLoop o.h b (.loop .busy pend ts' sz' ps asg' body'))) fun o2 => (match o2.h.m.get b with
     | some (.loop _ _ ts2 sz2 ps2 asg2 body2) => (match o2.ex with
      | .normal => some [(.bool true, putLoop o2.h b (.loop .ready none ts2 sz2 ps2 asg2 body2))]
      | .ret => some [(.bool false, putLoop o2.h b (.loop .done (some .ret) ts2 sz2 ps2 asg2 body2))]
      | .exit id => some [(.bool false, putLoop o2.h b (.loop .done (some (.exit id)) ts2 sz2 ps2 asg2 body2))])
     | _ => none)
    | _ => none)
   | _ => none)
 | _ => none
def aRun (P : Program) (LF : Nat) : Nat → Call1
 | 0 => fun _ _ => none
 | k + 1 => aFun P LF (aRun P LF k)
def aRunW (ov : Call1 → Call1) (P : Program) (LF : Nat) : Nat → Call1
 | 0 => fun _ _ => none
 | k + 1 => ov (aFun P LF (aRunW ov P LF k))
theorem leaves_ok {fn : Func} {tmps : Array Value} {l : List (Value × AH)} {φ0 : Phi} {h0 : AH} {t : T Value} : ∀ (ds : List Nat) {ds' : List Deferred} {h h' : AH} {φ : Phi} {w : World} {v : Value}, aLeave ds h = some h' → DR [] φ ds ds' → R w0 φ h w → FR φ n t tmps → Nx φ0 φ h0 h →
  aRes P n t h' fn.results.toList = some v → (v, h') ∈ l →
  LeavesInM Fence.wide 0 P fn tmps (fun e w' => ∃ v', e = .returned v' ∧ ∃ v h', (v, h') ∈ l ∧ ∃ φ', Nx φ0 φ' h0 h' ∧ R w0 φ' h' w' ∧ VR φ' v v') ds' .returning w
 | [], ds', h, h', φ, w, v, hs, hd, hr, hf, nx, hv, hm => by
  cases hd
  simp only [aLeave] at hs; cases hs
  obtain ⟨v', h1, h2⟩ := res_ok hr hf hv
  exact ⟨v', h1, v', rfl, v, _, hm, φ, nx, hr, h2⟩
 | d :: ds, ds', h, h', φ, w, v, hs, hd, hr, hf, nx, hv, hm => by
  cases hd with
  | @cons _ i _ l' hb ht =>
   simp only [aLeave] at hs
   split at hs
   · rename_i ho
     have hw : w.heap[i.c]? = some (.deferred (some [])) := hr.dom _ _ _ hb ho
     have hlt : T.Ok (d) := trivial
     refine ⟨by simp, .inl ⟨i.c, w.putObj i.c (.deferred none), rfl, run_takeDeferred hw, ?_⟩⟩
     have hlow : w0.heap.size ≤ i.c := hr.low _ _ _ hb ho rfl
     have hother : ∀ k, k ≠ i.c → (w.putObj i.c (.deferred none)).heap[k]? = w.heap[k]? := fun k hk => putW_other hk
     have r2 : R w0 φ { h with m := h.m.set d none } (w.putObj i.c (.deferred none)) := by
      have rd := hr.drop d hlt
      have free : ∀ b j o', φ b = some j → (h.m.set d none).get b = some o' → j.c ≠ i.c := by
       intro b j o' hj hgo hc
       rw [T.get_set] at hgo
       by_cases e : b = d
       · rw [if_pos e] at hgo; cases hgo
       · rw [if_neg e] at hgo; exact e (hr.inj _ _ _ _ _ _ hb hj ho hgo rfl hc.symm).symm
      have hsz : (w.putObj i.c (.deferred none)).heap.size = w.heap.size := by simp
      exact ⟨fun b j o hj ho => (rd.dom b j o hj ho).world (hother _ (free b j o hj ho)), rd.low, rd.inj, fun b j hj => by rw [hsz]; exact rd.lt b j hj, rd.nx,
       rd.below.trans ⟨rfl, rfl, rfl, by rw [hsz]; exact Nat.le_refl _, fun k hk => hother k (by omega)⟩⟩
     exact leaves_ok ds hs ht r2 hf (nx.trans (Nx.drop hb hlt)) hv hm
   · cases hs
theorem FR.entry {args args' : List Value} (hl : LR φ args args') {m : Nat} (hsz : args.length ≤ m) : FR φ m (T.fill args 0 .e) (⟨args'⟩ ++ Array.replicate (m - (⟨args'⟩ : Array Value).size) undef) := by
 have hle : args'.length ≤ m := by rw [← hl.length]; exact hsz
 refine ⟨by simp; omega, trivial, fun k u hk => ?_⟩
 rw [T.get_fill]
 by_cases hlt : k < args.length
 · rw [if_pos (by omega)]
   have hlt' : k < args'.length := by rw [← hl.length]; exact hlt
   rw [Array.getElem?_append_left (by simpa using hlt')] at hk
   obtain ⟨v', h1, h2⟩ := hl.get (List.getElem?_eq_getElem hlt)
   have : args'[k]? = some u := by simpa using hk
   rw [h1] at this; cases this
   simp only [Nat.sub_zero, List.getElem?_eq_getElem hlt, Option.getD_some]
   exact h2
 · rw [if_neg (by omega)]
   have hge : ¬ k < args'.length := by rw [← hl.length]; exact hlt
   rw [Array.getElem?_append_right (by simpa using hge), Array.getElem?_replicate] at hk
   split at hk
   · cases hk; exact .undef
   · cases hk
theorem fun_ok (hN : NoCount P) (hM : P.follows .mixedOrders = true) (LF : Nat) {call : Call1} (ih : CallsOk w0 P call) : CallsOk w0 P (aFun P LF call) := by
 intro an h l φ w nx hs hr hnr
 cases hnr with
 | val hv => simp [aFun] at hs
 | skip => simp [aFun] at hs
 | @enter f args args' hl =>
  refine ⟨?_, fun _ _ _ _ _ e => by cases e⟩
  intro f' args2 e
  cases e
  simp only [aFun] at hs
  split at hs
  · rename_i fn hf
    split at hs
    · rename_i c hb
      split at hs
      · rename_i hsz
        obtain ⟨l0, h0, hall⟩ := bindL_spec hs
        refine (callsIn_wide (n := 0)).1 (callsIn_of_wp_marks hf hb trivial ?_ rfl)
        have hfr := FR.entry (m := fn.ntmps) hl hsz
        refine wpIn_mono (code_ok hN hM ih none LF c (q := none) 0 h0 hr hfr .nil rfl) ?_
        rintro e a' w' ⟨o, ho, hex, φ1, nx1, r1, f1, d1⟩
        obtain ⟨k2, hk, hsub⟩ := hall _ ho
        obtain ⟨ex, t1, ds1, h1⟩ := o
        have fin : (match aLeave ds1 h1 with
         | some h' => (match aRes P fn.ntmps t1 h' fn.results.toList with
           | some v => some [(v, h')]
           | none => none)
         | none => none) = some k2 → LeavesInM Fence.wide 0 P fn a'.tmps (fun e w' => ∃ v', e = .returned v' ∧ ∃ v h', (v, h') ∈ l ∧ ∃ φ', Nx φ φ' h h' ∧ R w0 φ' h' w' ∧ VR φ' v v') a'.defers .returning w' := by
         intro hk
         split at hk
         · rename_i h2 hlv
           split at hk
           · rename_i v hv
             cases hk
             exact leaves_ok ds1 hlv d1 r1 f1 nx1 hv (hsub _ (List.mem_singleton.2 rfl))
           · cases hk
         · cases hk
        cases hex with
        | normal => exact fin hk
        | exit id => cases hk
        | ret => exact fin hk
      · cases hs
    · cases hs
  · cases hs
 | @round b i ts sz asg body fn arr hb hfr =>
  refine ⟨fun _ _ e => (by cases e), ?_⟩
  intro b' f' tmps' asg' body' e m
  cases e
  simp only [aFun] at hs
  obtain ⟨l0, h0, hall⟩ := bindL_spec hs
  refine roundIn_of_wpIn trivial ?_
  refine wpIn_mono (code_ok hN hM ih (some b) LF asg (q := some i.c) m h0 hr hfr .nil ⟨i, hb, rfl⟩) ?_
  rintro e a1 w1 ⟨o, ho, hex, φ1, nx1, r1, f1, d1⟩
  obtain ⟨k2, hk, hsub⟩ := hall _ ho
  obtain ⟨ex, t1, ds1, h1⟩ := o
  cases hex with
  | exit id => cases hk
  | ret => cases hk
  | normal =>
    dsimp only at hk
    split at hk
    · rename_i pend ts' sz' ps asg2 body2 hget
      have hb1 := nx1.le _ _ hb
      obtain ⟨fn0, arr0, df0, hw0, hfr0⟩ := r1.dom _ _ _ hb1 hget
      refine ⟨_, run_beginRound hw0 rfl, ?_⟩
      have r2 : R w0 φ1 (putLoop h1 b (.loop .busy pend ts' sz' ps asg2 body2)) (w1.putObj i.c (.loop ⟨.busy, pend, fn0, arr0, ⟨ps⟩, asg2, body2, df0⟩)) := r1.put hb1 hget rfl (fun w' hw => ⟨fn0, arr0, df0, hw, hfr0⟩)
      have nx2 : Nx φ1 φ1 h1 (putLoop h1 b (.loop .busy pend ts' sz' ps asg2 body2)) := Nx.put hb1 trivial
      obtain ⟨l3, h3, hall3⟩ := bindL_spec hk
      refine wpIn_mono (code_ok hN hM ih (some b) LF body (q := some i.c) m h3 r2 f1 d1 ⟨i, hb1, rfl⟩) ?_
      rintro e a2 w2 ⟨o2, ho2, hex2, φ3, nx3, r3, f3, d3⟩
      obtain ⟨k4, hk4, hsub4⟩ := hall3 _ ho2
      obtain ⟨ex2, t2, ds2, h2⟩ := o2
      dsimp only at hk4
      split at hk4
      · rename_i st2 pd2 ts2 sz2 ps2 asg3 body3 hget2
        have hb3 := nx3.le _ _ hb1
        obtain ⟨fn1, arr1, df1, hw1, hfr1⟩ := r3.dom _ _ _ hb3 hget2
        have nxx : ∀ (o : AObj), Nx φ φ3 h (putLoop h2 b o) := fun o => ((nx1.trans nx2).trans nx3).trans (Nx.put hb3 trivial)
        have rr : ∀ (st : LoopState) (pd : Option Code), R w0 φ3 (putLoop h2 b (.loop st pd ts2 sz2 ps2 asg3 body3)) (w2.putObj i.c (.loop ⟨st, pd, fn1, arr1, ⟨ps2⟩, asg3, body3, df1⟩)) := fun st pd => r3.put hb3 hget2 rfl (fun w' hw => ⟨fn1, arr1, df1, hw, hfr1⟩)
        cases hex2 with
        | normal =>
         cases hk4
         exact ⟨_, _, run_endRound none hw1, _, rfl, _, _, hsub _ (hsub4 _ (List.mem_singleton.2 rfl)), φ3, nxx _, rr .ready none, .bool _⟩
        | exit id =>
         cases hk4
         exact ⟨_, _, run_endRound (some (.exit id)) hw1, _, rfl, _, _, hsub _ (hsub4 _ (List.mem_singleton.2 rfl)), φ3, nxx _, rr .done (some (.exit id)), .bool _⟩
        | ret =>
         cases hk4
         exact ⟨_, _, run_endRound (some .ret) hw1, _, rfl, _, _, hsub _ (hsub4 _ (List.mem_singleton.2 rfl)), φ3, nxx _, rr .done (some .ret), .bool _⟩
      · cases hk4
    · cases hk
theorem runW_callsOk (hN : NoCount P) (hM : P.follows .mixedOrders = true) (LF : Nat) {ov : Call1 → Call1} (hov : ∀ call, CallsOk w0 P call → CallsOk w0 P (ov call)) : ∀ k, CallsOk w0 P (aRunW ov P LF k)
 | 0 => by intro an h l φ w nx hs; simp [aRunW] at hs
 | k + 1 => hov _ (fun_ok hN hM LF (runW_callsOk hN hM LF hov k))
end
end Go.X
namespace Go.X
noncomputable section
open Go Go.RowKit
variable {w0 : World} {P : Program}
def none0 : Phi := fun _ => none
def ah0 : AH := ⟨.e, 0⟩
theorem R.first (W : World) : R W none0 ah0 W :=
 ⟨fun _ _ _ h => (by cases h), fun _ _ _ h => (by cases h), fun _ _ _ _ _ _ h => (by cases h), fun _ _ h => (by cases h), trivial, Below.refl _ _⟩
def noCountB (P : Program) : Bool := P.funcs.toList.all fun fn => !(fn.name == "runtime.NumGoroutine")
theorem noCount_of (hb : noCountB P = true) : NoCount P := by
 intro f fn hf _
 have hm : fn ∈ P.funcs.toList := by
  rw [Array.mem_toList_iff]
  exact Array.mem_of_getElem? hf
 have := List.all_eq_true.1 hb fn hm
 simpa using this
end
end Go.X
namespace Go.X
noncomputable section
open Go Go.RowKit
variable {w0 w w' : World} {φ φ' : Phi} {h h' : AH} {P : Program} {n : Nat} {t : T Value}
def aSpine (P : Program) (call : Call1) (n LF : Nat) : Nat → Code → T Value → List Nat → AH → Option (T Value × List Nat × AH)
 | 0, _, t, ds, h => some (t, ds, h)
 | k + 1, .seq x y, t, ds, h => match aCode P call n LF none x t ds h with
  | some [⟨.normal, t', ds', h'⟩] => aSpine P call n LF k y t' ds' h'
  | _ => none
 | _ + 1, _, _, _, _ => none
def back : Nat → Code → Code
 | 0, c => c
 | k + 1, .seq _ y => back k y
 | _ + 1, c => c
def Good (w0 : World) (P : Program) (n : Nat) (Q : Exit → Act → World → Prop) (c : Code) (t : T Value) (ds : List Nat) (h : AH) : Prop :=
 ∀ (φ : Phi) (a : Act) (w : World), R w0 φ h w → FR φ n t a.tmps → DR [] φ ds a.defers → c.wpIn Fence.wide 0 P Q a w
end
end Go.X
namespace Go.X
noncomputable section
open Go Go.RowKit
variable {w0 w w' : World} {φ φ' : Phi} {h h' : AH} {P : Program} {n : Nat} {t : T Value}
def YesPost (W : World) : Ending → World → Prop := fun e w' => e = .returned (.bool true) ∧ Below W.heap.size W w'
end
end Go.X
namespace Go.X
noncomputable section
open Go Go.RowKit
variable {w0 w w' : World} {φ φ' : Phi} {h h' : AH} {P : Program} {n : Nat} {t : T Value}
def known (f : FuncId) (call : Call1) : Call1 := fun an h => match an with
 | .enter g [] => if g = f then some [(.bool true, h)] else call an h
 | _ => call an h
theorem known_ok {f : FuncId} {call : Call1} (hf : ∀ W, Calls P f #[] W (YesPost W)) (hc : CallsOk w0 P call) : CallsOk w0 P (known f call) := by
 intro an h l φ w nx hs hr hnr
 unfold known at hs
 split at hs
 · rename_i g
   split at hs
   · rename_i hg
     subst hg
     cases hs
     cases hnr with
     | enter hl =>
      cases hl
      refine ⟨?_, fun _ _ _ _ _ e => by cases e⟩
      intro f' args e
      cases e
      refine Calls.mono (hf w) fun e w' he => ?_
      obtain ⟨rfl, hb⟩ := he
      exact ⟨_, rfl, .bool true, h, List.mem_singleton.2 rfl, φ, .refl φ h, hr.grown hb, .bool true⟩
   · exact hc _ _ _ _ _ _ hs hr hnr
 · exact hc _ _ _ _ _ _ hs hr hnr
end
end Go.X
namespace Go.X
noncomputable section
open Go Go.RowKit
variable {w0 w w' : World} {φ φ' : Phi} {h h' : AH} {P : Program} {n : Nat} {t : T Value}
end
end Go.X
namespace Go.X
noncomputable section
open Go Go.RowKit
variable {w0 w w' : World} {φ φ' : Phi} {h h' : AH} {P : Program} {n : Nat} {t : T Value}
def ov0 (call : Call1) : Call1 := call
theorem ov0_ok {call : Call1} (hc : CallsOk w0 P call) : CallsOk w0 P (ov0 call) := hc
end
end Go.X
namespace Go.X
noncomputable section
open Go Go.RowKit
variable {w0 w w' : World} {φ φ' : Phi} {h h' : AH} {P : Program} {n : Nat} {t : T Value}
namespace T
variable {α : Type}
def smart (l : T α) (v : Option α) (r : T α) : T α := match l, v, r with
 | .e, none, .e => .e
 | l, v, r => .n l v r
theorem get_smart (l r : T α) (v : Option α) (k : Nat) : (smart l v r).get k = (T.n l v r).get k := by
 unfold smart
 split
 · rw [get_n]; split
   · rfl
   · split <;> rfl
 · rfl
def del (t : T α) : Nat → T α := T.rec (motive := fun _ => Nat → T α) (fun _ => .e)
 (fun l v r dl dr k => Bool.rec (Bool.rec (smart (dl (Nat.sub (Nat.div k (nat_lit 2)) (nat_lit 1))) v r) (smart l v (dr (Nat.div k (nat_lit 2)))) (Nat.beq (Nat.mod k (nat_lit 2)) (nat_lit 1))) (smart l none r) (Nat.beq k (nat_lit 0))) t
theorem del_n (l r : T α) (v : Option α) (k : Nat) : (T.n l v r).del k = if k = 0 then smart l none r else if k % 2 = 1 then smart l v (r.del (k / 2)) else smart (l.del (k / 2 - 1)) v r := by
 show Bool.rec (motive := fun _ => T α) (Bool.rec (motive := fun _ => T α) (smart (l.del (k / 2 - 1)) v r) (smart l v (r.del (k / 2))) (Nat.beq (k % 2) 1)) (smart l none r) (Nat.beq k 0) = _
 rw [beq_ite, beq_ite]
theorem get_del : ∀ (t : T α) (k j : Nat), (t.del k).get j = if j = k then none else t.get j
 | .e, k, j => by
  show (T.e : T α).get j = _
  rw [get_e]; simp
 | .n l v r, k, j => by
  have il := get_del l
  have ir := get_del r
  rw [del_n]
  by_cases hk : k = 0
  · subst hk
    rw [if_pos rfl, get_smart, get_n, get_n]
    by_cases hj : j = 0 <;> simp [hj]
  · rw [if_neg hk]
    by_cases ho : k % 2 = 1
    · rw [if_pos ho, get_smart, get_n, get_n, ir]
      by_cases hj : j = 0
      · subst hj; rw [if_pos rfl, if_pos rfl, if_neg (by omega)]
      · rw [if_neg hj, if_neg hj]
        by_cases hjo : j % 2 = 1
        · rw [if_pos hjo, if_pos hjo]
          by_cases e : j = k
          · subst e; simp
          · rw [if_neg e, if_neg (by omega)]
        · rw [if_neg hjo, if_neg hjo, if_neg (by intro e; subst e; exact hjo ho)]
    · rw [if_neg ho, get_smart, get_n, get_n, il]
      by_cases hj : j = 0
      · subst hj; rw [if_pos rfl, if_pos rfl, if_neg (by omega)]
      · rw [if_neg hj, if_neg hj]
        by_cases hjo : j % 2 = 1
        · rw [if_pos hjo, if_pos hjo, if_neg (by intro e; subst e; exact ho hjo)]
        · rw [if_neg hjo, if_neg hjo]
          by_cases e : j = k
          · subst e; simp
          · rw [if_neg e, if_neg (by omega)]
end T
def blocksV : Nat → Value → List Nat
 | _, .pointer (some a) => [a.block]
 | _, .slice (some a) _ _ => [a.block]
 | _, .map (some r) => [r]
 | k + 1, .iface _ v => blocksV k v
 | k + 1, .agg ⟨l⟩ => l.flatMap (blocksV k)
 | k + 1, .tuple ⟨l⟩ => l.flatMap (blocksV k)
 | k + 1, .func _ ⟨l⟩ ⟨m⟩ => l.flatMap (blocksV k) ++ m.flatMap (blocksV k)
 | _, _ => []
def blocksT : T Value → List Nat
 | .e => []
 | .n l v r => blocksT l ++ ((match v with
  | some v => blocksV 9 v
  | none => []) ++ blocksT r)
def blocksO : AObj → List Nat
 | .cells c _ _ _ => blocksT c
 | .tcells _ c _ _ => blocksT c
 | .map es _ _ => es.flatMap fun e => blocksV 9 e.1 ++ blocksV 9 e.2.1
 | .bag es => es.flatMap fun e => blocksV 9 e.2
 | _ => []
def memN (k : Nat) : List Nat → Bool
 | [] => false
 | x :: l => if Nat.beq k x then true else memN k l
def reachF (h : AH) (lo : Nat) : Nat → List Nat → List Nat → List Nat
 | 0, _, done => done
 | _, [], done => done
 | f + 1, b :: todo, done => if Nat.ble lo b then (if memN b done then reachF h lo f todo done else (match h.m.get b with
  | some o => reachF h lo f (blocksO o ++ todo) (b :: done)
  | none => reachF h lo f todo done)) else reachF h lo f todo done
def delN (keep : List Nat) (lo : Nat) (k : Nat) (t : T AObj) : T AObj := Nat.rec (motive := fun _ => T AObj) t (fun i ih => match memN (Nat.add lo i) keep with
 | true => ih
 | false => ih.del (Nat.add lo i)) k
theorem delN_get (keep : List Nat) (lo : Nat) : ∀ (k : Nat) (t : T AObj) (j : Nat), (∀ o, (delN keep lo k t).get j = some o → t.get j = some o) ∧ (j < lo → (delN keep lo k t).get j = t.get j)
 | 0, t, j => ⟨fun _ h => h, fun _ => rfl⟩
 | k + 1, t, j => by
  obtain ⟨h1, h2⟩ := delN_get keep lo k t j
  have e : delN keep lo (k + 1) t = match memN (lo + k) keep with
   | true => delN keep lo k t
   | false => (delN keep lo k t).del (lo + k) := rfl
  rw [e]
  cases memN (lo + k) keep with
  | true => exact ⟨h1, h2⟩
  | false =>
   dsimp only
   rw [T.get_del]
   refine ⟨fun o ho => ?_, fun hj => by rw [if_neg (by omega)]; exact h2 hj⟩
   split at ho
   · cases ho
   · exact h1 o ho
def dropNew (keep : List Nat) (h h' : AH) : AH := ⟨delN keep h.next (Nat.sub h'.next h.next) h'.m, h'.next⟩
theorem dropNew_get {keep : List Nat} {b : Nat} {o : AObj} (hb : (dropNew keep h h').m.get b = some o) : h'.m.get b = some o := (delN_get keep h.next (h'.next - h.next) h'.m b).1 o hb
theorem R.dropNew {keep : List Nat} (r : R w0 φ h' w) : R w0 φ (dropNew keep h h') w :=
 ⟨fun b i o hi ho => r.dom b i o hi (dropNew_get ho), fun b i o hi ho => r.low b i o hi (dropNew_get ho), fun b b' i i' o o' hi hi' ho ho' => r.inj b b' i i' o o' hi hi' (dropNew_get ho) (dropNew_get ho'), r.lt, r.nx, r.below⟩
def dropAt (lo : Nat) (p : Value × AH) : Value × AH := (p.1, ⟨delN (reachF p.2 lo 10000 (blocksV 9 p.1) []) lo (Nat.sub p.2.next lo) p.2.m, p.2.next⟩)
def dropR (lo : Nat) : Option (List (Value × AH)) → Option (List (Value × AH))
 | some l => some (l.map (dropAt lo))
 | none => none
theorem go_map {α β γ : Type} (f : α → β) (k : β → Option (List γ)) : ∀ (l : List α), bindL.go k (l.map f) = bindL.go (fun a => k (f a)) l
 | [] => rfl
 | [a] => rfl
 | a :: b :: l => by
  show joinL (k (f a)) (bindL.go k ((b :: l).map f)) = joinL (k (f a)) (bindL.go (fun a => k (f a)) (b :: l))
  rw [go_map f k (b :: l)]
theorem bindL_drop {β : Type} (lo : Nat) (x : Option (List (Value × AH))) (k : Value × AH → Option (List β)) : bindL (dropR lo x) k = bindL x (fun p => k (dropAt lo p)) := by
 cases x with
 | none => rfl
 | some l => exact go_map _ _ l
def low (m : Option Nat) (q : Value × AH) : Value × AH := match m with
 | some lo => dropAt lo q
 | none => q
def lowR (m : Option Nat) (x : Option (List (Value × AH))) : Option (List (Value × AH)) := match m with
 | some lo => dropR lo x
 | none => x
theorem low_fst (m : Option Nat) (q : Value × AH) : (low m q).1 = q.1 := by cases m <;> rfl
theorem bindL_low {β : Type} (m : Option Nat) (x : Option (List (Value × AH))) (k : Value × AH → Option (List β)) : bindL (lowR m x) k = bindL x (fun p => k (low m p)) := by
 cases m with
 | none => rfl
 | some lo => exact bindL_drop lo x k
def markOf (D : List FuncId) (g : FuncId) (h : AH) : Option Nat := match memN g D with
 | true => some h.next
 | false => none
end
end Go.X
namespace Go.X
noncomputable section
open Go Go.RowKit
variable {w0 w w' : World} {φ φ' : Phi} {h h' : AH} {P : Program} {n : Nat} {t : T Value}
theorem go_append {α β : Type} (f : α → Option (List β)) : ∀ (l m : List α), bindL.go f (l ++ m) = joinL (bindL.go f l) (bindL.go f m)
 | [], m => by
  show bindL.go f m = joinL (some []) (bindL.go f m)
  cases bindL.go f m <;> rfl
 | [a], [] => by
  show f a = joinL (f a) (some [])
  cases f a with
  | none => rfl
  | some x => simp [joinL]
 | [a], b :: m => rfl
 | a :: b :: l, m => by
  have ih := go_append f (b :: l) m
  show joinL (f a) (bindL.go f (b :: (l ++ m))) = joinL (joinL (f a) (bindL.go f (b :: l))) (bindL.go f m)
  rw [show b :: (l ++ m) = (b :: l) ++ m from rfl, ih]
  cases f a <;> cases bindL.go f (b :: l) <;> cases bindL.go f m <;> simp [joinL]
theorem bindL_go_assoc {α β γ : Type} (f : α → Option (List β)) (g : β → Option (List γ)) : ∀ (l : List α), bindL (bindL.go f l) g = bindL.go (fun a => bindL (f a) g) l
 | [] => rfl
 | [a] => rfl
 | a :: b :: l => by
  have ih := bindL_go_assoc f g (b :: l)
  show bindL (joinL (f a) (bindL.go f (b :: l))) g = joinL (bindL (f a) g) (bindL.go (fun a => bindL (f a) g) (b :: l))
  rw [← ih]
  cases f a with
  | none => cases bindL.go f (b :: l) <;> rfl
  | some x => cases bindL.go f (b :: l) with
   | none =>
    show none = joinL (bindL.go g x) none
    cases bindL.go g x <;> rfl
   | some y => exact go_append g x y
theorem bindL_assoc {α β γ : Type} (x : Option (List α)) (f : α → Option (List β)) (g : β → Option (List γ)) : bindL (bindL x f) g = bindL x (fun a => bindL (f a) g) := by
 cases x with
 | none => rfl
 | some l => exact bindL_go_assoc f g l
theorem bindL_one {α β : Type} (a : α) (f : α → Option (List β)) : bindL (some [a]) f = f a := rfl
def kid (i : Nat) : Code → Code
 | .seq x y => if i = 0 then x else y
 | .cond _ x y => if i = 0 then x else y
 | .block _ x => x
 | .loop x => x
 | _ => .skip
def bodyOf (P : Program) (f : FuncId) : Code := match P.funcs[f]? with
 | some fn => (match fn.body with | some c => c | none => .skip)
 | none => .skip
def codeAt (P : Program) (f : FuncId) : List Nat → Code
 | [] => bodyOf P f
 | i :: p => kid i (codeAt P f p)
def numT (P : Program) (f : FuncId) : Nat := match P.funcs[f]? with
 | some fn => fn.ntmps
 | none => 0
def resOf (P : Program) (f : FuncId) : List ResultVar := match P.funcs[f]? with
 | some fn => fn.results.toList
 | none => []
inductive K where
 | seq (p : List Nat)
 | loop (p : List Nat) (k : Nat)
 | block (id : Nat)
structure Susp where
 f : FuncId
 lv : Nat
 p : List Nat
 i : Nat
 ks : List K
 t : T Value
 ds : List Nat
 lo : Option Nat
inductive M where
 | code (f : FuncId) (lv : Nat) (p : List Nat) (ks : List K) (t : T Value) (ds : List Nat) (h : AH) (st : List Susp)
 | ops (f : FuncId) (lv : Nat) (p : List Nat) (i : Nat) (ks : List K) (t : T Value) (ds : List Nat) (h : AH) (st : List Susp)
 | exit (f : FuncId) (lv : Nat) (ex : Ex) (ks : List K) (t : T Value) (ds : List Nat) (h : AH) (st : List Susp)
 | ret (v : Value) (h : AH) (st : List Susp)
variable (P) in
def regionOps (c : Code) : Array Oper := match c with
 | .region _ ops _ => ops
 | _ => #[]
abbrev Res := Option (List (Value × AH))
section
variable (ov : Call1 → Call1) (P) (LF : Nat)
abbrev lvCall (lv : Nat) : Call1 := aRunW ov P LF lv
def finish (f : FuncId) (next : Value × AH → Res) (o : Out) : Res := match o.ex with
 | .exit _ => none
 | _ => (match aLeave o.ds o.h with
  | some h' => (match aRes P (numT P f) o.t h' (resOf P f) with
   | some v => next (v, h')
   | none => none)
  | none => none)
def semK (f : FuncId) (lv : Nat) (next : Value × AH → Res) : List K → Out → Res
 | [], o => finish P f next o
 | .seq p :: ks, o => bindL (thenX (aCode P (lvCall P ov LF lv) (numT P f) LF none (codeAt P f p)) o) (semK f lv next ks)
 | .loop p k :: ks, o => bindL (thenX (aLoop (aCode P (lvCall P ov LF lv) (numT P f) LF none (codeAt P f p)) k) o) (semK f lv next ks)
 | .block id :: ks, o => bindL (outX id o) (semK f lv next ks)
def semOps (f : FuncId) (lv : Nat) (p : List Nat) (i : Nat) (t : T Value) (ds : List Nat) (h : AH) (k : Out → Res) : Res :=
 bindL (aOps P (lvCall P ov LF lv) (numT P f) (regionOps (codeAt P f p)) ((regionOps (codeAt P f p)).toList.drop i) t h) fun q => k ⟨.normal, q.1, ds, q.2⟩
def dstOf (f : FuncId) (p : List Nat) (i : Nat) : Option Tmp := match (regionOps (codeAt P f p))[i]? with
 | some o => o.dst
 | none => none
def semR : List Susp → Value × AH → Res
 | [], q => some [q]
 | s :: st, q => (match aPut (numT P s.f) s.t (dstOf P s.f s.p s.i) q.1 with
  | some t' => semOps P ov LF s.f s.lv s.p (s.i + 1) t' s.ds (low s.lo q).2 (semK P ov LF s.f s.lv (semR st) s.ks)
  | none => none)
def semM : M → Res
 | .code f lv p ks t ds h st => bindL (aCode P (lvCall P ov LF lv) (numT P f) LF none (codeAt P f p) t ds h) (semK P ov LF f lv (semR P ov LF st) ks)
 | .ops f lv p i ks t ds h st => semOps P ov LF f lv p i t ds h (semK P ov LF f lv (semR P ov LF st) ks)
 | .exit f lv ex ks t ds h st => semK P ov LF f lv (semR P ov LF st) ks ⟨ex, t, ds, h⟩
 | .ret v h st => semR P ov LF st (v, h)
def enters (E : List FuncId) (l : Option (List (AN × AH))) : Option (FuncId × List Value × AH) := match l with
 | some [(.enter g args, h')] => if E.contains g then some (g, args, h') else none
 | _ => none
def canEnter (g : FuncId) (args : List Value) : Bool := match P.funcs[g]? with
 | some fn => (match fn.body with
  | some _ => decide (args.length ≤ fn.ntmps)
  | none => false)
 | none => false
def calm (E : List FuncId) (ops : Array Oper) : Bool := ops.toList.all fun o => match o.op with
 | .call ⟨.value (.func g), _, _⟩ => !E.contains g
 | .call ⟨.value _, _, _⟩ => E.isEmpty
 | .call ⟨.invoke _ _, _, _⟩ => E.isEmpty
 | _ => true
def step1op (D E : List FuncId) (f : FuncId) (lv : Nat) (p : List Nat) (i : Nat) (ks : List K) (t : T Value) (ds : List Nat) (h : AH) (st : List Susp) (o : Oper) : Option M :=
 match aWant (numT P f) t (regionOps (codeAt P f p)) o with
 | true => (match enters E (aOp P (numT P f) t h o.op) with
  | some (g, args, h') => (match lv with
   | lv' + 1 => if canEnter P g args then some (.code g lv' [] [] (T.fill args 0 .e) [] h' (⟨f, lv' + 1, p, i, ks, t, ds, markOf D g h'⟩ :: st)) else none
   | 0 => none)
  | none => (match aStep P (lvCall P ov LF lv) (numT P f) t h o.op with
   | some [(v, h')] => (match aPut (numT P f) t o.dst v with
    | some t' => some (.ops f lv p (i + 1) ks t' ds h' st)
    | none => none)
   | _ => none))
 | false => (match aPut (numT P f) t o.dst undef with
  | some t' => some (.ops f lv p (i + 1) ks t' ds h st)
  | none => none)
def oneOut (f : FuncId) (lv : Nat) (ks : List K) (st : List Susp) : COuts → Option M
 | some [o] => some (.exit f lv o.ex ks o.t o.ds o.h st)
 | _ => none
def step (D E : List FuncId) : M → Option M
 | .code f lv p ks t ds h st => (match codeAt P f p with
  | .seq _ _ => some (.code f lv (0 :: p) (.seq (1 :: p) :: ks) t ds h st)
  | .cond c _ _ => (match aO (numT P f) t c with
   | some (.bool true) => some (.code f lv (0 :: p) ks t ds h st)
   | some (.bool false) => some (.code f lv (1 :: p) ks t ds h st)
   | _ => none)
  | .block id c => (match isRange c with
   | true => oneOut f lv ks st (aCode P (lvCall P ov LF lv) (numT P f) LF none (.block id c) t ds h)
   | false => some (.code f lv (0 :: p) (.block id :: ks) t ds h st))
  | .loop _ => (match LF with
   | k + 1 => some (.code f lv (0 :: p) (.loop (0 :: p) k :: ks) t ds h st)
   | 0 => none)
  | .region _ ops false => if calm E ops then oneOut f lv ks st (cRegion P (lvCall P ov LF lv) (numT P f) ops false t ds h) else some (.ops f lv p 0 ks t ds h st)
  | c => oneOut f lv ks st (aCode P (lvCall P ov LF lv) (numT P f) LF none c t ds h))
 | .ops f lv p i ks t ds h st => (match (regionOps (codeAt P f p))[i]? with
  | some o => step1op P ov LF D E f lv p i ks t ds h st o
  | none => some (.exit f lv .normal ks t ds h st))
 | .exit f lv ex ks t ds h st => (match ks with
  | [] => (match ex with
   | .exit _ => none
   | _ => (match aLeave ds h with
    | some h' => (match aRes P (numT P f) t h' (resOf P f) with
     | some v => some (.ret v h' st)
     | none => none)
    | none => none))
  | .seq p :: ks => (match ex with
   | .normal => some (.code f lv p ks t ds h st)
   | ex => some (.exit f lv ex ks t ds h st))
  | .loop p k :: ks => (match ex, k with
   | .normal, k + 1 => some (.code f lv p (.loop p k :: ks) t ds h st)
   | .normal, 0 => none
   | ex, _ => some (.exit f lv ex ks t ds h st))
  | .block id :: ks => (match ex with
   | .exit k => if k = id then some (.exit f lv .normal ks t ds h st) else some (.exit f lv (.exit k) ks t ds h st)
   | ex => some (.exit f lv ex ks t ds h st)))
 | .ret v h st => (match st with
  | [] => none
  | s :: st => (match aPut (numT P s.f) s.t (dstOf P s.f s.p s.i) v with
   | some t' => some (.ops s.f s.lv s.p (s.i + 1) s.ks t' s.ds (low s.lo (v, h)).2 st)
   | none => none))
end
theorem loop_codeAt {P : Program} {f : FuncId} {p : List Nat} {x : Code} (hc : codeAt P f p = .loop x) (i : Nat) : codeAt P f (i :: p) = x := by
 show kid i (codeAt P f p) = x
 rw [hc]; rfl
theorem oneOut_ok {ov : Call1 → Call1} {LF : Nat} {f : FuncId} {lv : Nat} {ks : List K} {st : List Susp} {x : COuts} {m' : M} (hs : oneOut f lv ks st x = some m') :
   semM P ov LF m' = bindL x (semK P ov LF f lv (semR P ov LF st) ks) := by
 unfold oneOut at hs
 split at hs
 · cases hs; rfl
 · cases hs
theorem step_sem {ov : Call1 → Call1} {LF : Nat} {D E : List FuncId} (hE : ∀ g, E.contains g = true → ∀ c args h, ov c (.enter g args) h = lowR (markOf D g h) (c (.enter g args) h)) {m m' : M} (hs : step P ov LF D E m = some m') :
    semM P ov LF m = semM P ov LF m' := by
  cases m with
  | code f lv p ks t ds h st =>
    simp only [step] at hs
    split at hs
    · rename_i x y hc
      cases hs
      have e0 : codeAt P f (0 :: p) = x := by show kid 0 (codeAt P f p) = x; rw [hc]; rfl
      have e1 : codeAt P f (1 :: p) = y := by show kid 1 (codeAt P f p) = y; rw [hc]; rfl
      simp only [semM, semK, e0, e1, hc]
      exact bindL_assoc _ _ _
    · rename_i c x y hc
      have e0 : codeAt P f (0 :: p) = x := by show kid 0 (codeAt P f p) = x; rw [hc]; rfl
      have e1 : codeAt P f (1 :: p) = y := by show kid 1 (codeAt P f p) = y; rw [hc]; rfl
      split at hs
      · rename_i ho
        cases hs
        simp only [semM, hc, e0]
        congr 1
        show cCond _ c _ _ t ds h = _
        simp only [cCond, ho]
        rfl
      · rename_i ho
        cases hs
        simp only [semM, hc, e1]
        congr 1
        show cCond _ c _ _ t ds h = _
        simp only [cCond, ho]
        rfl
      · cases hs
    · rename_i id x hc
      split at hs
      · rw [oneOut_ok hs]
        simp only [semM, hc]
      · rename_i hr
        cases hs
        have e0 : codeAt P f (0 :: p) = x := by show kid 0 (codeAt P f p) = x; rw [hc]; rfl
        simp only [semM, semK, hc, e0]
        have e1 : ∀ (P : Program) (call : Call1) (n LF : Nat) (ro : Option Nat), aCode P call n LF ro (.block id x) = cBlock id (aCode P call n LF ro x) := by
          intro P call n LF ro
          show cBlockX x id (aCode P call n LF ro x) = _
          unfold cBlockX
          generalize aCode P call n LF ro x = y
          rw [hr]
        rw [e1]
        exact bindL_assoc _ _ _
    · rename_i x hc
      split at hs
      · rename_i k
        cases hs
        have e0 : codeAt P f (0 :: p) = x := loop_codeAt hc 0
        simp only [semM, semK, hc, e0]
        exact bindL_assoc _ _ _
      · cases hs
    · rename_i id ops hc
      split at hs
      · rw [oneOut_ok hs]
        simp only [semM, hc]
        rfl
      · cases hs
        simp only [semM, semOps, hc, regionOps, List.drop_zero]
        show bindL (cRegion _ _ _ ops false t ds h) _ = _
        unfold cRegion
        rw [bindL_assoc]
        rfl
    · rw [oneOut_ok hs]
      rfl
  | ops f lv p i ks t ds h st =>
    simp only [step] at hs
    split at hs
    · rename_i o ho
      have hdrop : (regionOps (codeAt P f p)).toList.drop i = o :: (regionOps (codeAt P f p)).toList.drop (i + 1) := by
        have h1 : (regionOps (codeAt P f p)).toList[i]? = some o := by rw [Array.getElem?_toList]; exact ho
        obtain ⟨hlt, he⟩ := List.getElem?_eq_some_iff.1 h1
        rw [List.drop_eq_getElem_cons hlt, he]
      have hsem : semM P ov LF (.ops f lv p i ks t ds h st) = bindL (opsStep P (lvCall P ov LF lv) (numT P f) (regionOps (codeAt P f p)) o (aOps P (lvCall P ov LF lv) (numT P f) (regionOps (codeAt P f p)) ((regionOps (codeAt P f p)).toList.drop (i + 1))) t h) (fun q => semK P ov LF f lv (semR P ov LF st) ks ⟨.normal, q.1, ds, q.2⟩) := by
        simp only [semM, semOps, hdrop]; rfl
      rw [hsem]
      unfold step1op at hs
      unfold opsStep
      split at hs
      · rename_i hw
        rw [hw]
        split at hs
        · rename_i g args h1 hen
          cases lv with
          | zero => cases hs
          | succ lv' =>
          dsimp only at hs
          split at hs
          · rename_i hce
            cases hs
            unfold enters at hen
            split at hen
            · rename_i g' args' h2 hao
              split at hen
              · rename_i hg
                simp only [Option.some.injEq, Prod.mk.injEq] at hen
                obtain ⟨rfl, rfl, rfl⟩ := hen
                have hst : aStep P (lvCall P ov LF (lv' + 1)) (numT P f) t h o.op = lowR (markOf D g' h2) (aFun P LF (lvCall P ov LF lv') (.enter g' args') h2) := by
                  unfold aStep
                  rw [hao]
                  exact hE g' hg _ args' h2
                rw [hst, bindL_low]
                generalize markOf D g' h2 = mk
                have hdst : dstOf P f p i = o.dst := by unfold dstOf; rw [ho]
                simp only [canEnter] at hce
                simp only [semM, codeAt, bodyOf, numT]
                unfold aFun
                split at hce
                · rename_i fn hfn
                  split at hce
                  · rename_i c hb
                    simp only [decide_eq_true_eq] at hce
                    dsimp only
                    rw [hfn]
                    simp only [hb]
                    rw [if_pos hce, bindL_assoc, bindL_assoc]
                    congr 1
                    funext o1
                    obtain ⟨ex, t1, ds1, h3⟩ := o1
                    simp only [semK, finish, numT, resOf, hfn]
                    have fin : ∀ (X : Option AH), bindL (bindL (match X with
                          | some h' => (match aRes P fn.ntmps t1 h' fn.results.toList with
                            | some v => some [(v, h')]
                            | none => none)
                          | none => none) (fun p1 => (Option.rec (motive := fun _ => Option (List (T Value × AH))) none (fun t' => aOps P (lvCall P ov LF (lv' + 1)) (match P.funcs[f]? with | some fn => fn.ntmps | none => 0) (regionOps (codeAt P f p)) ((regionOps (codeAt P f p)).toList.drop (i + 1)) t' (low mk p1).2) (aPut (match P.funcs[f]? with | some fn => fn.ntmps | none => 0) t o.dst (low mk p1).1)))) (fun q => semK P ov LF f (lv' + 1) (semR P ov LF st) ks ⟨.normal, q.1, ds, q.2⟩) = (match X with
                          | some h' => (match aRes P fn.ntmps t1 h' fn.results.toList with
                            | some v => semR P ov LF (⟨f, lv' + 1, p, i, ks, t, ds, mk⟩ :: st) (v, h')
                            | none => none)
                          | none => none) := by
                      intro X
                      cases X with
                      | none => rfl
                      | some h' =>
                        dsimp only
                        cases aRes P fn.ntmps t1 h' fn.results.toList with
                        | none => rfl
                        | some v =>
                          dsimp only
                          rw [bindL_one]
                          simp only [semR, hdst, numT, low_fst]
                          cases aPut (match P.funcs[f]? with | some fn => fn.ntmps | none => 0) t o.dst v with
                          | none => rfl
                          | some t' => rfl
                    cases ex with
                    | exit id => rfl
                    | normal => rw [← bindL_assoc]; exact fin _
                    | ret => rw [← bindL_assoc]; exact fin _
                  · cases hce
                · cases hce
              · cases hen
            · cases hen
          · cases hs
        · split at hs
          · rename_i v h1 hst
            split at hs
            · rename_i t' hp
              cases hs
              show bindL (bindL (aStep P (lvCall P ov LF lv) (numT P f) t h o.op) _) _ = _
              rw [hst, bindL_one]
              dsimp only
              rw [hp]
              rfl
            · cases hs
          · cases hs
      · rename_i hw
        rw [hw]
        split at hs
        · rename_i t' hp
          cases hs
          rw [hp]
          rfl
        · cases hs
    · rename_i ho
      cases hs
      have hdrop : (regionOps (codeAt P f p)).toList.drop i = [] := by
        have h1 : (regionOps (codeAt P f p)).toList[i]? = none := by rw [Array.getElem?_toList]; exact ho
        exact List.drop_eq_nil_of_le (List.getElem?_eq_none_iff.1 h1)
      simp only [semM, semOps, hdrop]
      rfl
  | exit f lv ex ks t ds h st =>
    simp only [step] at hs
    split at hs
    · split at hs
      · cases hs
      · rename_i hne
        split at hs
        · rename_i h1 hl
          split at hs
          · rename_i v hv
            cases hs
            cases ex with
            | exit id => exact (hne _ rfl).elim
            | normal => simp only [semM, semK, finish, hl, hv]
            | ret => simp only [semM, semK, finish, hl, hv]
          · cases hs
        · cases hs
    · rename_i p ks
      split at hs
      · cases hs; rfl
      · rename_i hne
        cases hs
        cases ex with
        | normal => exact (hne rfl).elim
        | exit id => rfl
        | ret => rfl
    · rename_i p k ks
      split at hs
      · cases hs
        simp only [semM, semK]
        exact bindL_assoc _ _ _
      · cases hs
      · rename_i hne1 hne0
        cases hs
        cases ex with
        | normal =>
          cases k with
          | zero => exact (hne0 rfl rfl).elim
          | succ k => exact (hne1 _ rfl rfl).elim
        | exit id => rfl
        | ret => rfl
    · rename_i id ks
      split at hs
      · rename_i k
        split at hs
        · rename_i he
          cases hs
          simp only [semM, semK, outX]
          subst he
          rw [beq_nat, if_pos rfl]; rfl
        · rename_i he
          cases hs
          simp only [semM, semK, outX]
          rw [beq_nat, if_neg he]; rfl
      · rename_i hne
        cases hs
        cases ex with
        | exit id' => exact (hne _ rfl).elim
        | normal => rfl
        | ret => rfl
  | ret v h st =>
    simp only [step] at hs
    split at hs
    · cases hs
    · rename_i s st
      split at hs
      · rename_i t' hp
        cases hs
        simp only [semM, semR, hp]
      · cases hs
section
variable (P : Program) (ov : Call1 → Call1) (LF : Nat) (D E : List FuncId)
def mrun (k : Nat) : M → Option M := Nat.rec (motive := fun _ => M → Option M) some (fun _ ih m => Option.rec (motive := fun _ => Option M) none ih (step P ov LF D E m)) k
end
theorem mrun_sem {ov : Call1 → Call1} {LF : Nat} {D E : List FuncId} (hE : ∀ g, E.contains g = true → ∀ c args h, ov c (.enter g args) h = lowR (markOf D g h) (c (.enter g args) h)) : ∀ (k : Nat) {m m' : M}, mrun P ov LF D E k m = some m' → semM P ov LF m = semM P ov LF m'
 | 0, m, m', hs => by cases hs; rfl
 | k + 1, m, m', hs => by
  cases h1 : step P ov LF D E m with
  | none =>
   have : (Option.rec (motive := fun _ => Option M) none (mrun P ov LF D E k) (step P ov LF D E m) : Option M) = some m' := hs
   rw [h1] at this; cases this
  | some m1 =>
   have : (Option.rec (motive := fun _ => Option M) none (mrun P ov LF D E k) (step P ov LF D E m) : Option M) = some m' := hs
   rw [h1] at this
   exact (step_sem hE h1).trans (mrun_sem hE k this)
def start (f : FuncId) (lv : Nat) (args : List Value) (h : AH) : M := .code f lv [] [] (T.fill args 0 .e) [] h []
theorem sem_start {ov : Call1 → Call1} {LF lv : Nat} {f : FuncId} {args : List Value} {h : AH} (hc : canEnter P f args = true) : semM P ov LF (start f lv args h) = aFun P LF (lvCall P ov LF lv) (.enter f args) h := by
 unfold canEnter at hc
 simp only [start, semM, codeAt, bodyOf, numT]
 unfold aFun
 split at hc
 · rename_i fn hfn
   split at hc
   · rename_i c hb
     simp only [decide_eq_true_eq] at hc
     dsimp only
     rw [hfn]
     simp only [hb]
     rw [if_pos hc]
     congr 1
     funext o
     simp only [semK, finish, numT, resOf, hfn]
     rfl
   · cases hc
 · cases hc
theorem yes_of_machine (hN : NoCount P) (hM : P.follows .mixedOrders = true) {ov : Call1 → Call1} (hov : ∀ w0 call, CallsOk w0 P call → CallsOk w0 P (ov call)) {LF lv : Nat} {f : FuncId} {h : AH} (hc : canEnter P f [] = true)
  (hs : semM P ov LF (start f lv [] ah0) = semM P ov LF (.ret (.bool true) h [])) (W : World) : Calls P f #[] W (YesPost W) := by
 rw [sem_start hc] at hs
 have hcc := (fun_ok (w0 := W) hN hM LF (runW_callsOk hN hM LF (hov W) lv) _ _ _ none0 W (.enter f ⟨[]⟩) hs (R.first W) (.enter .nil)).1 _ _ rfl
 refine Calls.mono hcc fun e w' he => ?_
 obtain ⟨v', rfl, v, h', hm, φ', _, hr, hv⟩ := he
 cases List.mem_singleton.1 hm
 cases hv
 exact ⟨rfl, hr.below⟩
end
end Go.X
namespace Go.X
noncomputable section
open Go Go.RowKit
variable {w0 w w' : World} {φ φ' : Phi} {h h' : AH} {P : Program} {n : Nat} {t : T Value}
def dropCall (fs : List FuncId) (call : Call1) : Call1 := fun an h => match an with
 | .enter g args => (match memN g fs with
  | true => (match call (.enter g args) h with
   | some l => some (l.map fun p => (p.1, dropNew (reachF p.2 h.next 10000 (blocksV 9 p.1) []) h p.2))
   | none => none)
  | false => call (.enter g args) h)
 | an => call an h
theorem dropCall_ok {fs : List FuncId} {call : Call1} (hc : CallsOk w0 P call) : CallsOk w0 P (dropCall fs call) := by
 intro an h l φ w nx hs hr hnr
 unfold dropCall at hs
 split at hs
 · rename_i g args
   split at hs
   · split at hs
     · rename_i l0 h0
       cases hs
       obtain ⟨c1, c2⟩ := hc _ _ _ _ _ _ h0 hr hnr
       refine ⟨fun f args' e => (c1 f args' e).mono ?_, fun b f tmps asg body e m => (by subst e; cases hnr)⟩
       rintro e w' ⟨v', rfl, v, h', hm, φ', nx', r', hv⟩
       refine ⟨v', rfl, v, dropNew _ h h', List.mem_map.2 ⟨_, hm, rfl⟩, φ', ⟨nx'.le, nx'.next, fun b hb hlt => ?_⟩, r'.dropNew, hv⟩
       obtain ⟨g1, g2⟩ := nx'.ghost b hb hlt
       exact ⟨g1, ((delN_get _ h.next (h'.next - h.next) h'.m b).2 hlt).trans g2⟩
     · cases hs
   · exact hc _ _ _ _ _ _ hs hr hnr
 · exact hc _ _ _ _ _ _ hs hr hnr
end
end Go.X
namespace Go.X
noncomputable section
open Go Go.RowKit
variable {w0 w : World} {φ : Phi} {h : AH} {P : Program}
def sameS : Value → Value → Bool
 | .int k n, .int k' n' => (match k, k' with
  | .i64, .i64 => (n == n')
  | .u8, .u8 => (n == n')
  | _, _ => false)
 | .bool a, .bool b => a == b
 | .string a, .string b => a.data.toList == b.data.toList
 | _, _ => false
theorem bytes_ext {a b : ByteArray} (h : a.data.toList = b.data.toList) : a = b := by
 obtain ⟨⟨a⟩⟩ := a
 obtain ⟨⟨b⟩⟩ := b
 have : a = b := h
 rw [this]
theorem sameS_ok {a b : Value} (h : sameS a b = true) : a = b := by
 unfold sameS at h
 split at h
 · split at h
   · rw [eq_of_beq h]
   · rw [eq_of_beq h]
   · cases h
 · rw [eq_of_beq h]
 · rw [bytes_ext (eq_of_beq h)]
 · cases h
def sameL : List Value → List Value → Bool
 | [], [] => true
 | a :: l, b :: m => sameS a b && sameL l m
 | _, _ => false
theorem sameL_ok : ∀ {l m : List Value}, sameL l m = true → l = m
 | [], [], _ => rfl
 | a :: l, b :: m, h => by
  unfold sameL at h
  rw [Bool.and_eq_true] at h
  rw [sameS_ok h.1, sameL_ok h.2]
 | [], _ :: _, h => by cases h
 | _ :: _, [], h => by cases h
def ValPost (W : World) (v : Value) : Ending → World → Prop := fun e w' => e = .returned v ∧ Below W.heap.size W w'
def valOf (l : Option (List (Value × AH))) : Option Value := match l with
 | some [(v, _)] => (match pfv v with | true => some v | false => none)
 | _ => none
theorem LR.refl_of {l : List Value} (φ : Phi) (hp : l.all pfv = true) : LR φ l l := by
 induction l with
 | nil => exact .nil
 | cons x l ih =>
  simp only [List.all_cons, Bool.and_eq_true] at hp
  exact .cons (pfv_refl φ hp.1) (ih hp.2)
theorem val_calls (_hN : NoCount P) (_hM : P.follows .mixedOrders = true) {call : Call1} (hc : ∀ W, CallsOk W P call) {f : FuncId} {args : List Value} {v : Value} (hs : valOf (call (.enter f args) ah0) = some v) (ha : args.all pfv = true) (W : World) :
  Calls P f ⟨args⟩ W (ValPost W v) := by
 cases hl : call (.enter f args) ah0 with
 | none => rw [hl] at hs; cases hs
 | some l =>
  rw [hl] at hs
  have hc := (hc W _ _ _ none0 W (.enter f ⟨args⟩) hl (R.first W) (.enter (.refl_of _ ha))).1 _ _ rfl
  refine Calls.mono hc fun e w' he => ?_
  obtain ⟨v', rfl, u, h', hm, φ', _, hr, hv⟩ := he
  unfold valOf at hs
  split at hs
  · rename_i u2 h2 heq
    cases heq
    cases List.mem_singleton.1 hm
    split at hs
    · rename_i hp
      cases hs
      obtain rfl := pfv_same hp hv
      exact ⟨rfl, hr.below⟩
    · cases hs
  · cases hs
abbrev VTab := List (List Value × Value)
def findV (args : List Value) : VTab → Option Value
 | [] => none
 | (a, v) :: r => match sameL a args with
  | true => some v
  | false => findV args r
theorem findV_ok {args : List Value} {v : Value} : ∀ {t : VTab}, findV args t = some v → (args, v) ∈ t
 | [], h => by cases h
 | (a, u) :: r, h => by
  unfold findV at h
  split at h
  · rename_i hs
    cases h
    rw [sameL_ok hs]; exact List.mem_cons_self
  · exact List.mem_cons_of_mem _ (findV_ok h)
structure VGood (P : Program) (f : FuncId) (t : VTab) : Prop where
 calls : ∀ a v, (a, v) ∈ t → ∀ W, Calls P f ⟨a⟩ W (ValPost W v)
 plain : ∀ a v, (a, v) ∈ t → a.all pfv = true ∧ pfv v = true
def knownVals (f : FuncId) (t : VTab) (call : Call1) : Call1 := fun an h => match an with
 | .enter g args => (match Nat.beq g f with
  | true => (match findV args t with
   | some v => some [(v, h)]
   | none => call an h)
  | false => call an h)
 | _ => call an h
theorem knownVals_ok {f : FuncId} {t : VTab} (ht : VGood P f t) {call : Call1} (hc : CallsOk w0 P call) : CallsOk w0 P (knownVals f t call) := by
 intro an h l φ w nx hs hr hnr
 unfold knownVals at hs
 split at hs
 · rename_i g args
   split at hs
   · rename_i hg
     have hg := Nat.eq_of_beq_eq_true hg
     split at hs
     · rename_i v hv
       cases hs
       cases hnr with
       | enter hl =>
        refine ⟨?_, fun _ _ _ _ _ e => by cases e⟩
        intro f' args' e
        cases e
        have hm := findV_ok hv
        obtain ⟨p1, p2⟩ := ht.plain _ _ hm
        have ea := all_same hl p1
        subst ea hg
        refine Calls.mono (ht.calls _ _ hm w) fun e w' he => ?_
        obtain ⟨rfl, hb⟩ := he
        exact ⟨v, rfl, v, h, List.mem_singleton.2 rfl, φ, .refl φ h, hr.grown hb, pfv_refl φ p2⟩
     · exact hc _ _ _ _ _ _ hs hr hnr
   · exact hc _ _ _ _ _ _ hs hr hnr
 · exact hc _ _ _ _ _ _ hs hr hnr
theorem map_at {α β : Type} {f g : α → β} : ∀ {l : List α}, l.map f = l.map g → ∀ x, x ∈ l → f x = g x
 | [], _, x, hx => by cases hx
 | y :: l, h, x, hx => by
  rw [List.map_cons, List.map_cons, List.cons.injEq] at h
  rcases List.mem_cons.1 hx with rfl | hx
  · exact h.1
  · exact map_at h.2 x hx
theorem vgood_of (hN : NoCount P) (hM : P.follows .mixedOrders = true) {call : Call1} (hc : ∀ W, CallsOk W P call) {f : FuncId} {t : VTab} (h : (t.map fun p => valOf (call (.enter f p.1) ah0)) = t.map fun p => some p.2) (hp : (t.all fun p => p.1.all pfv && pfv p.2) = true) : VGood P f t := by
 have hp' : ∀ a v, (a, v) ∈ t → a.all pfv = true ∧ pfv v = true := fun a v hm => by
  have := List.all_eq_true.1 hp _ hm
  rwa [Bool.and_eq_true] at this
 exact ⟨fun a v hm W => val_calls hN hM hc (map_at h _ hm) (hp' a v hm).1 W, hp'⟩
end
end Go.X
namespace Go.X
noncomputable section
open Go Go.RowKit
variable {w0 w w' : World} {φ φ' : Phi} {h h' : AH} {P : Program} {n : Nat} {t : T Value} {bs : List Deferred}
abbrev PEx := Value → T Value → List Nat → AH → Bool
def FP (φ : Phi) (n : Nat) (S : List Nat) (t : T Value) (a : Array Value) : Prop := a.size = n ∧ ∀ s v, s ∈ S → a[s]? = some v → VR φ (vt t s) v
def PPost (bs : List Deferred) (w0 : World) (φ : Phi) (h : AH) (n : Nat) (S : List Nat) (X : PEx) : Exit → Act → World → Prop := fun e a w =>
 ∃ u t' ds' h' u' φ', X u t' ds' h' = true ∧ e = .panic [{ v := u', recovered := false }] ∧ VR φ' u u' ∧ Nx φ φ' h h' ∧ R w0 φ' h' w ∧ FP φ' n S t' a.tmps ∧ DR bs φ' ds' a.defers
structure Way where
 r : Nat
 i : Nat
 m : Nat
theorem PPost.from {h0 : AH} {φ0 : Phi} {S : List Nat} {X : PEx} {e : Exit} {a : Act} (nx : Nx φ0 φ h0 h) (p : PPost bs w0 φ h n S X e a w) : PPost bs w0 φ0 h0 n S X e a w := by
 obtain ⟨u, t', ds', h', u', φ', h1, h2, h3, h4, rest⟩ := p; exact ⟨u, t', ds', h', u', φ', h1, h2, h3, nx.trans h4, rest⟩
end
end Go.X
