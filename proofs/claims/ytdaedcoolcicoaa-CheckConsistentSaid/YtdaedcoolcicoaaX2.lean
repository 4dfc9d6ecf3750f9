/- The closed evaluator, part 2: abstract heaps, and what stands for them. -/
import Derived.Test.YtdaedcoolcicoaaX1
namespace Go.X
noncomputable section
open Go Go.RowKit

/-- What lies behind an abstract block: cells (how many are known; the cells of an element if it may be appended to; is it only read), a map, an iterator. -/
inductive AObj where
  | cells (c : T Value) (n op : Nat) (ro : Bool)
  | map (es : List (Value × Value × Nat)) (clock : Nat) (ro : Bool)
  | iter (m : Option Nat) (since : Nat) (seen : List Nat) (st : Nat)
  | sit (s : ByteArray) (p : Nat)
  | loop (st : LoopState) (pend : Option Code) (ts : T Value) (sz : Nat) (ps : List Tmp) (asg body : Code)
  | dfr
def AObj.ro : AObj → Bool
  | .cells _ _ _ r => r
  | .map _ _ r => r
  | _ => false
structure AH where
  m : T AObj
  next : Nat

/-- Entries that stand for one another. -/
inductive ER (φ : Phi) : List (Value × Value × Nat) → List MapEntry → Prop
  | nil : ER φ [] []
  | cons {k v k' v' : Value} {b : Nat} {l : List (Value × Value × Nat)} {l' : List MapEntry} (hk : VR φ k k') (hv : VR φ v v') (t : ER φ l l') : ER φ ((k, v, b) :: l) (⟨k', v', b⟩ :: l')
theorem ER.mono {φ φ' : Phi} (le : Le φ φ') {l : List (Value × Value × Nat)} {l' : List MapEntry} (h : ER φ l l') : ER φ' l l' := by
  induction h with
  | nil => exact .nil
  | cons hk hv _ ih => exact .cons (hk.mono le) (hv.mono le) ih
theorem ER.length {φ : Phi} {l : List (Value × Value × Nat)} {l' : List MapEntry} (h : ER φ l l') : l.length = l'.length := by
  induction h with
  | nil => rfl
  | cons _ _ _ ih => simp [ih]

/-- Frames that stand for one another. -/
structure FR (φ : Phi) (n : Nat) (t : T Value) (a : Array Value) : Prop where
  size : a.size = n
  lt : n ≤ T.top
  get : ∀ k v, a[k]? = some v → VR φ ((t.get k).getD undef) v
theorem FR.mono {φ φ' : Phi} (le : Le φ φ') {n : Nat} {t : T Value} {a : Array Value} (h : FR φ n t a) : FR φ' n t a := ⟨h.size, h.lt, fun k v hk => (h.get k v hk).mono le⟩

def OR (φ : Phi) (i : Im) (w : World) : AObj → Prop
  | .cells c n op _ => i.n = n ∧ i.e = op ∧ n ≤ T.top ∧ ∃ arr el, w.heap[i.c]? = some (.cells arr el (0, 0)) ∧ arr.size = i.sz ∧ n + i.d ≤ i.sz ∧
      ∀ k, k < n → ∃ v v', c.get k = some v ∧ arr[k + i.d]? = some v' ∧ VR φ v v'
  | .map es clock _ => ∃ arr, w.heap[i.c]? = some (.map arr clock) ∧ ER φ es arr.toList
  | .iter m since seen st => i.d = 0 ∧ ∃ m', w.heap[i.c]? = some (.mapIter m' since ⟨seen⟩ st) ∧ VR φ (.map m) (.map m')
  | .sit s p => i.d = 0 ∧ w.heap[i.c]? = some (.stringIter s p)
  | .loop st pend ts sz ps asg body => ∃ fn arr df, w.heap[i.c]? = some (.loop ⟨st, pend, fn, arr, ⟨ps⟩, asg, body, df⟩) ∧ FR φ sz ts arr
  | .dfr => w.heap[i.c]? = some (.deferred (some []))

/-- An abstract heap stands for the part of the world that φ names; below w0's blocks nothing has changed. -/
structure R (w0 : World) (φ : Phi) (h : AH) (w : World) : Prop where
  dom : ∀ b i o, φ b = some i → h.m.get b = some o → OR φ i w o
  low : ∀ b i o, φ b = some i → h.m.get b = some o → o.ro = false → w0.heap.size ≤ i.c
  inj : ∀ b b' i i' o o', φ b = some i → φ b' = some i' → h.m.get b = some o → h.m.get b' = some o' → i.c = i'.c → b = b'
  lt : ∀ b i, φ b = some i → i.c < w.heap.size ∧ b < h.next
  nx : h.next ≤ T.top
  below : Below w0.heap.size w0 w

variable {w0 w w' : World} {φ φ' : Phi} {h h' : AH} {P : Program}

theorem OR.mono (le : Le φ φ') {i : Im} {o : AObj} (k : OR φ i w o) : OR φ' i w o := by
  cases o with
  | cells c n op ro =>
    obtain ⟨h1, h2, h3, arr, el, h4, h5, h6, h7⟩ := k
    exact ⟨h1, h2, h3, arr, el, h4, h5, h6, fun k hk => let ⟨v, v', a, b, c⟩ := h7 k hk; ⟨v, v', a, b, c.mono le⟩⟩
  | map es clock ro => obtain ⟨arr, h1, h2⟩ := k; exact ⟨arr, h1, h2.mono le⟩
  | iter m since seen st => obtain ⟨h0, m', h1, h2⟩ := k; exact ⟨h0, m', h1, h2.mono le⟩
  | sit s p => exact k
  | loop st pend ts sz ps asg body => obtain ⟨fn, arr, df, h1, h2⟩ := k; exact ⟨fn, arr, df, h1, h2.mono le⟩
  | dfr => exact k
theorem OR.world {i : Im} {o : AObj} (e : w'.heap[i.c]? = w.heap[i.c]?) (k : OR φ i w o) : OR φ i w' o := by
  cases o <;> simpa only [OR, e] using k
theorem OR.ex {i : Im} {o : AObj} (k : OR φ i w o) : ∃ x, w.heap[i.c]? = some x := by
  cases o with
  | cells c n op ro => obtain ⟨_, _, _, arr, el, h4, _⟩ := k; exact ⟨_, h4⟩
  | map es clock ro => obtain ⟨arr, h1, _⟩ := k; exact ⟨_, h1⟩
  | iter m since seen st => obtain ⟨_, m', h1, h2⟩ := k; exact ⟨_, h1⟩
  | sit s p => exact ⟨_, k.2⟩
  | loop st pend ts sz ps asg body => obtain ⟨fn, arr, df, h1, h2⟩ := k; exact ⟨_, h1⟩
  | dfr => exact ⟨_, k⟩

/-- A world with one block changed. -/
def putW (w : World) (c : Nat) (x : Obj) : World := { w with heap := w.heap.setIfInBounds c x }
theorem putW_same {c : Nat} {x : Obj} (hc : c < w.heap.size) : (putW w c x).heap[c]? = some x := by simp [putW, hc]
theorem putW_other {c k : Nat} {x : Obj} (hk : k ≠ c) : (putW w c x).heap[k]? = w.heap[k]? := by simp [putW, Array.getElem?_setIfInBounds_ne (Ne.symm hk)]
theorem putW_size {c : Nat} {x : Obj} : (putW w c x).heap.size = w.heap.size := by simp [putW]
theorem setCell_put {b o : Nat} {v : Value} {arr : Array Value} {el : TypeId} {fr : Nat × Nat} (hb : w.heap[b]? = some (.cells arr el fr)) :
    w.setCell ⟨b, o, none⟩ v = putW w b (.cells (arr.setIfInBounds o v) el fr) := by
  unfold World.setCell putW
  congr 1
  apply Array.ext_getElem?
  intro k
  have hlt := (Array.getElem?_eq_some_iff.1 hb).1
  rw [Array.getElem?_modify, Array.getElem?_setIfInBounds]
  by_cases e : b = k
  · subst e; rw [if_pos rfl, if_pos rfl, if_pos hlt, hb]; rfl
  · rw [if_neg e, if_neg e]

/-- A live block is changed on both sides. -/
theorem R.put (r : R w0 φ h w) {b : Nat} {i : Im} {o o' : AObj} {x : Obj} (hi : φ b = some i) (ho : h.m.get b = some o) (hro : o.ro = false)
    (hx : ∀ w', w'.heap[i.c]? = some x → OR φ i w' o') : R w0 φ { h with m := h.m.set b (some o') } (putW w i.c x) := by
  have hlt := (r.lt b i hi).1
  have hb : b < T.top := Nat.lt_of_lt_of_le (r.lt b i hi).2 r.nx
  have hget : ∀ k, (h.m.set b (some o')).get k = if k = b then some o' else h.m.get k := fun k => T.get_set hb k
  have back : ∀ {k : Nat} {o2 : AObj}, (h.m.set b (some o')).get k = some o2 → ∃ o3, h.m.get k = some o3 ∧ (k ≠ b → o2 = o3) ∧ (k = b → o2 = o') := by
    intro k o2 hk
    rw [hget] at hk
    by_cases e : k = b
    · subst e; rw [if_pos rfl] at hk; cases hk; exact ⟨o, ho, fun hn => (hn rfl).elim, fun _ => rfl⟩
    · rw [if_neg e] at hk; exact ⟨o2, hk, fun _ => rfl, fun e' => (e e').elim⟩
  refine ⟨fun k j o2 hj hk => ?_, fun k j o2 hj hk hr => ?_, fun k k' j j' o2 o3 hj hj' hk hk' hc => ?_, fun k j hj => ⟨by rw [putW_size]; exact (r.lt k j hj).1, (r.lt k j hj).2⟩, r.nx, ?_⟩
  · obtain ⟨o3, h3, h4, h5⟩ := back hk
    by_cases e : k = b
    · subst e
      rw [h5 rfl]
      rw [hi] at hj; cases hj
      exact hx _ (putW_same hlt)
    · rw [h4 e]
      exact (r.dom k j o3 hj h3).world (putW_other (fun hc => e (r.inj k b j i o3 o hj hi h3 ho hc)))
  · obtain ⟨o3, h3, h4, h5⟩ := back hk
    by_cases e : k = b
    · subst e
      rw [hi] at hj; cases hj
      exact r.low k i o hi ho hro
    · rw [h4 e] at hr; exact r.low k j o3 hj h3 hr
  · obtain ⟨p, h3, _⟩ := back hk
    obtain ⟨p', h3', _⟩ := back hk'
    exact r.inj k k' j j' p p' hj hj' h3 h3' hc
  · have hl := r.low b i o hi ho hro
    exact r.below.trans ⟨rfl, rfl, rfl, by rw [putW_size]; exact Nat.le_refl _, fun k hk => putW_other (by omega)⟩

/-- A new block on both sides. -/
theorem R.new (r : R w0 φ h w) {i : Im} {o : AObj} {x : Obj} (hc : i.c = w.heap.size) (hn : h.next < T.top) (hx : ∀ φ' w', Le φ φ' → w'.heap[i.c]? = some x → OR φ' i w' o) :
    ∃ φ', Le φ φ' ∧ φ' h.next = some i ∧ R w0 φ' ⟨h.m.set h.next (some o), h.next + 1⟩ (w.alloc x) ∧ ∀ b j, φ' b = some j → φ b = some j ∨ b = h.next := by
  refine ⟨fun b => if b = h.next then some i else φ b, ?_, if_pos rfl, ?_, fun b j hb => ?_⟩
  rotate_left 2
  · by_cases e : b = h.next
    · exact .inr e
    · exact .inl (by simpa [e] using hb)
  · intro b j hj
    have := (r.lt b j hj).2
    show (if b = h.next then some i else φ b) = some j
    rw [if_neg (by omega)]; exact hj
  · have le : Le φ (fun b => if b = h.next then some i else φ b) := by
      intro b j hj
      have := (r.lt b j hj).2
      show (if b = h.next then some i else φ b) = some j
      rw [if_neg (by omega)]; exact hj
    have hnew : (w.alloc x).heap[i.c]? = some x := by
      show (w.heap.push x)[i.c]? = some x
      rw [hc]; simp
    have hold : ∀ k, k < w.heap.size → (w.alloc x).heap[k]? = w.heap[k]? := fun k hk => Below.heap_alloc w x k hk
    have hget : ∀ k, (h.m.set h.next (some o)).get k = if k = h.next then some o else h.m.get k := fun k => T.get_set hn k
    refine ⟨fun k j o2 hj hk => ?_, fun k j o2 hj hk hr => ?_, fun k k' j j' o2 o3 hj hj' hk hk' hcc => ?_, fun k j hj => ?_, hn, r.below.trans ⟨rfl, rfl, rfl, by simp, fun k hk => hold k (Nat.lt_of_lt_of_le hk r.below.size)⟩⟩
    · rw [hget] at hk
      by_cases e : k = h.next
      · subst e; rw [if_pos rfl] at hk; cases hk
        rw [if_pos rfl] at hj; cases hj
        exact hx _ _ le hnew
      · rw [if_neg e] at hk hj
        exact ((r.dom k j o2 hj hk).world (hold _ (r.lt k j hj).1)).mono le
    · rw [hget] at hk
      by_cases e : k = h.next
      · subst e
        rw [if_pos rfl] at hj; cases hj
        rw [hc]; exact r.below.size
      · rw [if_neg e] at hk hj
        exact r.low k j o2 hj hk hr
    · rw [hget] at hk hk'
      by_cases e : k = h.next
      · by_cases e' : k' = h.next
        · rw [e, e']
        · subst e
          rw [if_pos rfl] at hj; cases hj
          rw [if_neg e'] at hj'
          have := (r.lt k' j' hj').1
          omega
      · by_cases e' : k' = h.next
        · subst e'
          rw [if_pos rfl] at hj'; cases hj'
          rw [if_neg e] at hj
          have := (r.lt k j hj).1
          omega
        · rw [if_neg e] at hk hj
          rw [if_neg e'] at hk' hj'
          exact r.inj k k' j j' o2 o3 hj hj' hk hk' hcc
    · by_cases e : k = h.next
      · subst e; rw [if_pos rfl] at hj; cases hj
        rw [hc]; simp
      · rw [if_neg e] at hj
        have := r.lt k j hj
        refine ⟨?_, ?_⟩
        · simp; omega
        · show k < h.next + 1; omega

/-- The world may differ in what the relation does not see. -/
theorem R.drew (r : R w0 φ h w) : R w0 φ h w.drew := ⟨fun b i o h1 h2 => (r.dom b i o h1 h2).world rfl, r.low, r.inj, r.lt, r.nx, r.below.drew⟩

/-- A block that is not used any more. -/
theorem R.drop (r : R w0 φ h w) (b : Nat) (hb : b < T.top) : R w0 φ { h with m := h.m.set b none } w := by
  have hget : ∀ {k o}, (h.m.set b none).get k = some o → h.m.get k = some o := by
    intro k o hk
    rw [T.get_set hb] at hk
    by_cases e : k = b
    · rw [if_pos e] at hk; cases hk
    · rw [if_neg e] at hk; exact hk
  exact ⟨fun k j o hj hk => r.dom k j o hj (hget hk), fun k j o hj hk hr => r.low k j o hj (hget hk) hr, fun k k' j j' o o' hj hj' hk hk' hc => r.inj k k' j j' o o' hj hj' (hget hk) (hget hk') hc, r.lt, r.nx, r.below⟩

/-! Cells. -/
def AH.cell (h : AH) (a : Addr) : Option Value :=
  match h.m.get a.block with
  | some (.cells c n _ _) => if a.off < n then (match a.spot with | none => c.get a.off | some _ => none) else none
  | _ => none
theorem R.cell (r : R w0 φ h w) {a : Addr} {i : Im} {v : Value} (hi : φ a.block = some i) (hv : h.cell a = some v) :
    ∃ v', w.cell? ⟨i.c, a.off + i.d, none⟩ = some v' ∧ w.frozen? ⟨i.c, a.off + i.d, none⟩ = false ∧ VR φ v v' := by
  unfold AH.cell at hv
  split at hv
  · rename_i c n op ro ho
    by_cases hn : a.off < n
    · rw [if_pos hn] at hv
      cases hs : a.spot with
      | some s => rw [hs] at hv; cases hv
      | none =>
        rw [hs] at hv
        obtain ⟨h1, h2, h3, arr, el, h4, h5, h6, h7⟩ := r.dom _ _ _ hi ho
        obtain ⟨u, v', hu, hv', hr⟩ := h7 _ hn
        rw [hu] at hv; cases hv
        refine ⟨v', ?_, ?_, hr⟩
        · simp only [World.cell?, h4]; simpa using hv'
        · simp only [World.frozen?, h4]; simp
    · rw [if_neg hn] at hv; cases hv
  · cases hv
def AH.setc (h : AH) (a : Addr) (v : Value) : Option AH :=
  match h.m.get a.block with
  | some (.cells c n op false) => if a.off < n then (match a.spot with | none => some { h with m := h.m.set a.block (some (.cells (c.set a.off (some v)) n op false)) } | some _ => none) else none
  | _ => none
theorem R.setc (r : R w0 φ h w) {a : Addr} {i : Im} {v v' : Value} (hi : φ a.block = some i) (hs : h.setc a v = some h') (hv : VR φ v v') :
    R w0 φ h' (w.setCell ⟨i.c, a.off + i.d, none⟩ v') ∧ (w.cell? ⟨i.c, a.off + i.d, none⟩).isSome = true ∧ w.frozen? ⟨i.c, a.off + i.d, none⟩ = false := by
  unfold AH.setc at hs
  split at hs
  · rename_i c n op ho
    by_cases hn : a.off < n
    · rw [if_pos hn] at hs
      cases hsp : a.spot with
      | some s => rw [hsp] at hs; cases hs
      | none =>
        rw [hsp] at hs; cases hs
        obtain ⟨h1, h2, h3, arr, el, h4, h5, h6, h7⟩ := r.dom _ _ _ hi ho
        rw [setCell_put h4]
        refine ⟨r.put hi ho rfl (fun w' hw' => ⟨h1, h2, h3, _, el, hw', by simpa using h5, h6, fun k hk => ?_⟩), ?_, ?_⟩
        · obtain ⟨u, u', hu, hu', hr⟩ := h7 k hk
          by_cases e : k = a.off
          · subst e
            refine ⟨v, v', by rw [T.get_set (by omega), if_pos rfl], ?_, hv⟩
            have := (Array.getElem?_eq_some_iff.1 hu').1
            simp [this]
          · refine ⟨u, u', by rw [T.get_set (by omega), if_neg e]; exact hu, ?_, hr⟩
            rw [Array.getElem?_setIfInBounds_ne (by omega)]; exact hu'
        · simp only [World.cell?, h4]
          obtain ⟨u, u', hu, hu', hr⟩ := h7 _ hn
          simp [hu']
        · simp only [World.frozen?, h4]; simp
    · rw [if_neg hn] at hs; cases hs
  · cases hs
/-- Cells, from an address on. -/
def AH.cells (h : AH) (a : Addr) : Nat → Nat → Option (List Value)
  | _, 0 => some []
  | i, n + 1 => match h.cell { a with off := a.off + i } with
    | some v => match h.cells a (i + 1) n with
      | some l => some (v :: l)
      | none => none
    | none => none
theorem R.cells (r : R w0 φ h w) {a : Addr} {i : Im} (hi : φ a.block = some i) : ∀ (n k : Nat) {l : List Value}, h.cells a k n = some l →
    ∃ l', l'.length = n ∧ (∀ j v, l'[j]? = some v → w.cell? ⟨i.c, a.off + i.d + (k + j), none⟩ = some v) ∧ LR φ l l' := by
  intro n
  induction n with
  | zero => intro k l hl; simp only [AH.cells] at hl; cases hl; exact ⟨[], rfl, fun j v hj => by simp at hj, .nil⟩
  | succ n ih =>
    intro k l hl
    simp only [AH.cells] at hl
    split at hl
    · rename_i v hv
      split at hl
      · rename_i m hm
        cases hl
        obtain ⟨v', h1, _, h2⟩ := r.cell (a := { a with off := a.off + k }) hi hv
        obtain ⟨m', h3, h4, h5⟩ := ih (k + 1) hm
        refine ⟨v' :: m', by simp [h3], fun j u hj => ?_, .cons h2 h5⟩
        cases j with
        | zero =>
          simp at hj; subst hj
          rw [show a.off + i.d + (k + 0) = a.off + k + i.d by omega]
          exact h1
        | succ j =>
          have := h4 j u (by simpa using hj)
          rw [show a.off + i.d + (k + (j + 1)) = a.off + i.d + (k + 1 + j) by omega]
          exact this
      · cases hl
    · cases hl
theorem addEq (b o k : Nat) : (⟨b, o, none⟩ : Addr).add k = ⟨b, o + k, none⟩ := by unfold Addr.add; split <;> simp_all
theorem run_loadCells_at {b o n : Nat} {l : List Value} (hl : l.length = n) (hc : ∀ j v, l[j]? = some v → w.cell? ⟨b, o + j, none⟩ = some v) : (loadCells ⟨b, o, none⟩ n).run P w = .ok ⟨l⟩ w := by
  subst hl
  exact run_loadCells_list _ _ _ (fun j v hj => by rw [addEq]; exact hc j v hj)
def AH.setcs (h : AH) (a : Addr) : Nat → List Value → Option AH
  | _, [] => some h
  | i, v :: l => if v.oneCell' then (match h.setc { a with off := a.off + i } v with
    | some h => h.setcs a (i + 1) l
    | none => none) else none
theorem R.setcs {a : Addr} {i : Im} (hi : φ a.block = some i) : ∀ (l : List Value) (k : Nat) {l' : List Value} {h : AH} {w : World}, R w0 φ h w → h.setcs a k l = some h' → LR φ l l' →
    ∃ w', (storeCells ⟨i.c, a.off + i.d, none⟩ l' k).run P w = .ok () w' ∧ R w0 φ h' w' := by
  intro l
  induction l with
  | nil => intro k l' h w r hs hl; cases hl; simp only [AH.setcs] at hs; cases hs; exact ⟨w, by simp [storeCells], r⟩
  | cons v l ih =>
    intro k l' h w r hs hl
    cases hl with
    | cons hv ht =>
      rename_i v' l'
      simp only [AH.setcs] at hs
      split at hs
      · rename_i h1
        split at hs
        · rename_i h2 hset
          obtain ⟨r2, hc, hf⟩ := r.setc (a := { a with off := a.off + k }) hi hset hv
          obtain ⟨w', hw, r'⟩ := ih (k + 1) r2 hs ht
          refine ⟨w', ?_, r'⟩
          obtain ⟨u, hu⟩ := Option.isSome_iff_exists.1 hc
          unfold storeCells
          have e : (⟨i.c, a.off + i.d, none⟩ : Addr).add k = ⟨i.c, a.off + k + i.d, none⟩ := by rw [addEq]; congr 1; omega
          rw [e]
          have h1' : v'.oneCell' = true := by rw [hv.one]; exact h1
          rw [Sem.run_bind, run_store _ _ _ _ _ h1', show w.cell? ⟨i.c, a.off + k + i.d, none⟩ = some u from hu]
          simp only [show w.frozen? ⟨i.c, a.off + k + i.d, none⟩ = false from hf]
          simpa [Result.andThen] using hw
        · cases hs
      · cases hs
/-- A new row of cells. -/
def AH.newc (h : AH) (l : List Value) : Option (Nat × AH) :=
  if h.next < T.top && decide (l.length ≤ T.top) then some (h.next, ⟨h.m.set h.next (some (.cells (T.fill l 0 .e) l.length 0 false)), h.next + 1⟩) else none
theorem R.newc2 (r : R w0 φ h w) {l l' : List Value} {b : Nat} (hs : h.newc l = some (b, h')) (hl : LR φ l l') (el : TypeId) :
    ∃ φ', Le φ φ' ∧ φ' b = some ⟨w.heap.size, 0, l.length, l.length, 0⟩ ∧ R w0 φ' h' (w.alloc (.cells ⟨l'⟩ el (0, 0))) ∧ ∀ b j, φ' b = some j → φ b = some j ∨ b = h.next := by
  unfold AH.newc at hs
  split at hs
  · rename_i hb
    cases hs
    simp only [Bool.and_eq_true, decide_eq_true_eq] at hb
    refine r.new rfl hb.1 (fun φ' w' le hw => ⟨rfl, rfl, hb.2, ⟨l'⟩, el, hw, by simp [hl.length], by simp, fun k hk => ?_⟩)
    obtain ⟨v', h1, h2⟩ := hl.get (List.getElem?_eq_getElem hk)
    refine ⟨l[k], v', ?_, by simpa using h1, h2.mono le⟩
    rw [T.get_fill (by omega), if_pos (by omega)]
    simp [hk]
  · cases hs
end
end Go.X
