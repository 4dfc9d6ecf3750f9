/- The closed evaluator, part O: regions that draw their order are evaluated rightly. -/
import Derived.Test.YtdaedcoolcicoaaXN
namespace Go.X
noncomputable section
open Go Go.RowKit
variable {w0 w w' : World} {φ φ' φ0 : Phi} {h h' h0 h1 h2 : AH} {P : Program} {n : Nat} {t t' tb t1 t2 : T Value} {ops : Array Oper} {ls ms : List Nat}

theorem countF_set {l : Array Bool} {i : Nat} (h : l.getD i true = false) : ((l.setIfInBounds i true).toList.countP (fun b => !b)) + 1 = l.toList.countP (fun b => !b) := by
  have hi : i < l.size := by
    rcases Nat.lt_or_ge i l.size with h' | h'
    · exact h'
    · rw [Array.getD_eq_getD_getElem?, Array.getElem?_eq_none h'] at h; simp at h
  have he : l.toList[i]'(by simpa using hi) = false := by
    rw [Array.getD_eq_getD_getElem?, Array.getElem?_eq_getElem hi] at h
    simpa using h
  rw [Array.toList_setIfInBounds]
  exact aux _ i _ he
where
  aux : ∀ (m : List Bool) (i : Nat) (h : i < m.length), m[i] = false → (m.set i true).countP (fun b => !b) + 1 = m.countP (fun b => !b)
    | [], i, h, _ => by simp at h
    | b :: m, 0, _, he => by simp at he; subst he; simp
    | b :: m, i + 1, h, he => by
      simp only [List.set_cons_succ, List.countP_cons]
      have := aux m i (by simpa using h) (by simpa using he)
      omega

/-- A new name, thought of before, for a block that is laid. -/
theorem R.bindGhost (r : R w0 φ h w) {b : Nat} {al : Al} {mk : Mk} {x : Obj} (hφ : φ b = none) (hlt : b < h.next) (hg : h.m.get b = some al.obj) (hk : al.ok mk = true) (ha : AlR φ al x) :
    ∃ φ', Le φ φ' ∧ φ' b = some (al.im w.heap.size) ∧ (∀ k, k ≠ b → φ' k = φ k) ∧ R w0 φ' h (w.alloc x) := by
  have hc : (al.im w.heap.size).c = w.heap.size := by cases al <;> rfl
  have le : Le φ (fun k => if k = b then some (al.im w.heap.size) else φ k) := by
    intro k j hj
    show (if k = b then _ else φ k) = some j
    rw [if_neg (fun e => by subst e; rw [hφ] at hj; cases hj)]; exact hj
  have hnew : (w.alloc x).heap[w.heap.size]? = some x := World.alloc_heap_new w x
  have r1 := r.allocW x
  refine ⟨fun k => if k = b then some (al.im w.heap.size) else φ k, le, if_pos rfl, fun k hk => if_neg hk, ?_⟩
  refine ⟨fun k j o hj ho => ?_, fun k j o hj ho hr => ?_, fun k k' j j' o o' hj hj' ho ho' hcc => ?_, fun k j hj => ?_, r.nx, r1.below⟩
  · by_cases e : k = b
    · subst e
      rw [if_pos rfl] at hj; cases hj
      rw [hg] at ho; cases ho
      exact AlR.or hk ha le hnew
    · rw [if_neg e] at hj
      exact (r1.dom k j o hj ho).mono le
  · by_cases e : k = b
    · subst e
      rw [if_pos rfl] at hj; cases hj
      rw [hc]; exact r.below.size
    · rw [if_neg e] at hj
      exact r1.low k j o hj ho hr
  · by_cases e : k = b
    · by_cases e' : k' = b
      · rw [e, e']
      · subst e
        rw [if_pos rfl] at hj; cases hj
        rw [if_neg e'] at hj'
        have := (r.lt k' j' hj').1
        omega
    · by_cases e' : k' = b
      · subst e'
        rw [if_pos rfl] at hj'; cases hj'
        rw [if_neg e] at hj
        have := (r.lt k j hj).1
        omega
      · rw [if_neg e] at hj
        rw [if_neg e'] at hj'
        exact r.inj k k' j j' o o' hj hj' ho ho' hcc
  · by_cases e : k = b
    · subst e
      rw [if_pos rfl] at hj; cases hj
      rw [hc]
      exact ⟨by simp, hlt⟩
    · rw [if_neg e] at hj
      exact r1.lt k j hj
/-- A frame on which all slots are known. -/
theorem Core.frame {d0 : List Deferred} {done : Nat → Prop} {sn : List Nat} {b : Nat → Nat} {lst : Nat → Prop} {a : Act} (hn : n ≤ T.top) (c : Core w0 P n ops φ0 h0 tb d0 done sn t1 h1 φ b lst a w) :
    ∃ tS, FR φ n tS a.tmps ∧ (∀ s j, s < n → lst j → dstAt ops j = some s → vt tS s = vt t1 s) ∧ (∀ s, s < n → (∀ j, lst j → dstAt ops j ≠ some s) → vt tS s = vt tb s) := by
  classical
  let g : Nat → Value := fun s => if ∃ j, lst j ∧ dstAt ops j = some s then vt t1 s else vt tb s
  have hget : ∀ s, s < n → vt (T.fill ((List.range n).map g) 0 .e) s = g s := by
    intro s hs
    unfold vt
    rw [T.get_fill (by simpa using hn), if_pos (by simp; exact hs)]
    simp [hs]
  refine ⟨T.fill ((List.range n).map g) 0 .e, ⟨c.size, hn, fun s u hu => ?_⟩, fun s j hs hl hd => ?_, fun s hs hno => ?_⟩
  · have hs : s < n := by
      have := (Array.getElem?_eq_some_iff.1 hu).1
      rw [c.size] at this; exact this
    have := hget s hs
    unfold vt at this
    rw [this]
    show VR φ (if ∃ j, lst j ∧ dstAt ops j = some s then vt t1 s else vt tb s) u
    by_cases e : ∃ j, lst j ∧ dstAt ops j = some s
    · rw [if_pos e]
      obtain ⟨j, h1, h2⟩ := e
      exact c.fw s u j hu h1 h2
    · rw [if_neg e]
      exact c.fb s u hu (fun j hl hd => e ⟨j, hl, hd⟩)
  · rw [hget s hs]
    exact if_pos ⟨j, hl, hd⟩
  · rw [hget s hs]
    exact if_neg (fun ⟨j, h1, h2⟩ => hno j h1 h2)
/-- The frame where one more is listed. -/
theorem Core.put {d0 : List Deferred} {done : Nat → Prop} {sn : List Nat} {b : Nat → Nat} {lst : Nat → Prop} {a : Act} (c : Core w0 P n ops φ0 h0 tb d0 done sn t1 h1 φ b lst a w) (le : Le φ φ')
    {i : Nat} {o : Oper} (ho : ops[i]? = some o) {v v' : Value} (hv : VR φ' v v') {t2 : T Value} (h2 : ∀ s, o.dst ≠ some s → vt t2 s = vt t1 s) (h3 : ∀ d, o.dst = some d → vt t2 d = v) :
    (a.put o.dst v').tmps.size = n ∧ (∀ s u j, (a.put o.dst v').tmps[s]? = some u → (lst j ∨ j = i) → dstAt ops j = some s → VR φ' (vt t2 s) u) ∧
      (∀ s u, (a.put o.dst v').tmps[s]? = some u → (∀ j, (lst j ∨ j = i) → dstAt ops j ≠ some s) → VR φ' (vt tb s) u) ∧ (a.put o.dst v').defers = d0 := by
  have hdi := dstAt_eq ho
  cases hd : o.dst with
  | none =>
    refine ⟨c.size, fun s u j hu hl hds => ?_, fun s u hu hno => (c.fb s u hu (fun j hl => hno j (.inl hl))).mono le, c.df⟩
    rcases hl with hl | hl
    · rw [h2 s (by rw [hd]; simp)]; exact (c.fw s u j hu hl hds).mono le
    · subst hl; rw [hdi, hd] at hds; cases hds
  | some d =>
    have hsz : (a.tmps.setIfInBounds d v').size = n := by simp [c.size]
    refine ⟨hsz, fun s u j hu hl hds => ?_, fun s u hu hno => ?_, c.df⟩
    · have hu' : (a.tmps.setIfInBounds d v')[s]? = some u := hu
      rw [Array.getElem?_setIfInBounds] at hu'
      by_cases e : d = s
      · subst e
        rw [if_pos rfl] at hu'
        split at hu'
        · cases hu'; rw [h3 d hd]; exact hv
        · cases hu'
      · rw [if_neg e] at hu'
        have hji : j ≠ i := fun e2 => by subst e2; rw [hdi, hd] at hds; cases hds; exact e rfl
        rw [h2 s (by rw [hd]; intro x; cases x; exact e rfl)]
        exact (c.fw s u j hu' (hl.resolve_right hji) hds).mono le
    · have hu' : (a.tmps.setIfInBounds d v')[s]? = some u := hu
      rw [Array.getElem?_setIfInBounds] at hu'
      by_cases e : d = s
      · subst e; exact (hno i (.inr rfl) (by rw [hdi, hd])).elim
      · rw [if_neg e] at hu'
        exact (c.fb s u hu' (fun j hl => hno j (.inl hl))).mono le
end
end Go.X
