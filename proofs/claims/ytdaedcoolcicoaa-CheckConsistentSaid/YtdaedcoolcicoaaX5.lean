/- The closed evaluator, part 5: rows that are made, append, copy, clear. -/
import Derived.Test.YtdaedcoolcicoaaX4
namespace Go.X
noncomputable section
open Go Go.RowKit
variable {w0 w w' : World} {φ φ' : Phi} {h h' : AH} {P : Program}

def aRow (l : List Value) (h : AH) (len cap : Nat) : Option (Value × AH) := match h.newc l with
  | some (b, h') => if cap < open_ then some (.slice (some ⟨b, 0, none⟩) len cap, h') else none
  | none => none
theorem sim_row (r : R w0 φ h w) {l l' : List Value} {len cap : Nat} {v : Value} (hs : aRow l h len cap = some (v, h')) (hl : LR φ l l') (el : TypeId) {s : Sem Value}
    (hrun : s.run P w = .ok (.slice (some ⟨w.heap.size, 0, none⟩) len cap) (w.alloc (.cells ⟨l'⟩ el (0, 0)))) : SimV w0 P φ h w s v h' := by
  unfold aRow at hs
  split at hs
  · rename_i b h1 hn
    split at hs
    · cases hs
      obtain ⟨φ', nx, hb, r'⟩ := r.newc' hn hl el
      refine ⟨_, _, φ', hrun, nx, r', ?_⟩
      exact .slice (a := ⟨b, 0, none⟩) ⟨w.heap.size, 0, l.length, l.length, 0⟩ hb rfl (by omega)
    · cases hs
  · cases hs

/-- A row of zero values. -/
def zrep : Nat → List Value → List Value
  | 0, _ => []
  | n + 1, z => z ++ zrep n z
theorem zrep_len : ∀ (n : Nat) (z : List Value), (zrep n z).length = n * z.length
  | 0, z => by simp [zrep]
  | n + 1, z => by simp [zrep, zrep_len n z, Nat.succ_mul, Nat.add_comm]
theorem zrep_get : ∀ (n : Nat) (z : List Value) (j : Nat), j < n * z.length → (zrep n z)[j]? = z[j % z.length]?
  | 0, z, j, h => by simp at h
  | n + 1, z, j, h => by
    rw [Nat.succ_mul] at h
    rw [zrep]
    by_cases hj : j < z.length
    · rw [List.getElem?_append_left hj, Nat.mod_eq_of_lt hj]
    · rw [List.getElem?_append_right (by omega), zrep_get n z _ (by omega)]
      rw [Nat.mod_eq_sub_mod (a := j) (by omega)]
theorem zrep_rel {z : List Value} (hz : LR φ z z) : ∀ n, LR φ (zrep n z) (zrep n z)
  | 0 => .nil
  | n + 1 => hz.append (zrep_rel hz n)
theorem zarr {z : Value} {k n : Nat} (hk : n = k * (cellsL z).length) : (Array.range n).map (fun i => z.cells[i % z.cells.size]!) = ⟨zrep k (cellsL z)⟩ := by
  subst hk
  rw [cells_eq]
  apply Array.ext_getElem?
  intro j
  rw [Array.getElem?_map]
  by_cases hj : j < k * (cellsL z).length
  · rw [Array.getElem?_range, if_pos hj]
    have hpos : 0 < (cellsL z).length := by
      rcases Nat.eq_zero_or_pos (cellsL z).length with h0 | h0
      · rw [h0] at hj; omega
      · exact h0
    have hm : j % (cellsL z).length < (cellsL z).length := Nat.mod_lt _ hpos
    have := zrep_get k (cellsL z) j hj
    have e : (⟨zrep k (cellsL z)⟩ : Array Value)[j]? = (zrep k (cellsL z))[j]? := by simp
    rw [e, this, List.getElem?_eq_getElem hm]
    simp [hm]
  · rw [Array.getElem?_range, if_neg hj]
    have e : (⟨zrep k (cellsL z)⟩ : Array Value)[j]? = (zrep k (cellsL z))[j]? := by simp
    rw [e, List.getElem?_eq_none (by rw [zrep_len]; omega)]
    rfl
theorem zcells {z : Value} {n : Nat} : Builtin.zeroCells z.cells n = ⟨zrep n (cellsL z)⟩ := by
  unfold Builtin.zeroCells
  exact zarr (by rw [cells_eq]; simp)
def byOf (P : Program) (T : TypeId) : Option Nat := (P.info? T).map (·.bytes)
theorem rI' {T : TypeId} {k : Nat} (h : szOf P T = some k) : ∃ i, P.info? T = some i ∧ i.size = k := by
  unfold szOf at h
  exact Option.map_eq_some_iff.1 h

def aMakeSlice (P : Program) (T : TypeId) (len cap : Value) (h : AH) : Option (Value × AH) := match len, cap with
  | .int _ l, .int _ c => match P.underlying T with
    | some (.slice el) => (match szOf P el, byOf P el, zeroOf P el with
      | some k, some by_, some z => if 0 ≤ l ∧ l ≤ c ∧ c * (by_ + 1) < 1099511627776 ∧ (cellsL z).length = k then aRow (zrep c.toNat (cellsL z)) h l.toNat c.toNat else none
      | _, _, _ => none)
    | _ => none
  | _, _ => none
theorem wrap64 {c : Int} (h0 : 0 ≤ c) (h1 : c < 1099511627776) : IntKind.i64.wrap c = c := by
  rw [IntKind.wrap_i64]; omega
theorem sim_makeSlice (r : R w0 φ h w) {T : TypeId} {len cap len' cap' v : Value} (hs : aMakeSlice P T len cap h = some (v, h')) (hl : VR φ len len') (hc : VR φ cap cap') :
    SimV w0 P φ h w (Instr.makeSlice T len' cap') v h' := by
  unfold aMakeSlice at hs
  split at hs
  · rename_i k1 l k2 c
    obtain rfl := hl.int_inv
    obtain rfl := hc.int_inv
    split at hs
    · rename_i el hu
      split at hs
      · rename_i k by_ z hk hb hz
        split at hs
        · rename_i hcond
          obtain ⟨h1, h2, h3, h4⟩ := hcond
          obtain ⟨hz1, hz2⟩ := rZero hz w
          obtain ⟨i, hi, hisz⟩ := rI' hk
          have hib : i.bytes = by_ := by unfold byOf at hb; rw [hi] at hb; simpa using hb
          have hcc : c < 1099511627776 := by
            have : c * 1 ≤ c * (by_ + 1 : Int) := Int.mul_le_mul_of_nonneg_left (by omega) (by omega)
            omega
          have hcb : (by_ : Int) * c ≤ 281474976710656 := by
            have : c * (by_ + 1 : Int) = by_ * c + c := by rw [Int.mul_add, Int.mul_comm, Int.mul_one]
            omega
          have hroom : ¬ (140737488355328 < c.toNat * by_) := by
            have e : ((c.toNat * by_ : Nat) : Int) = c * by_ := by push_cast; rw [Int.toNat_of_nonneg (by omega)]
            have : c * (by_ + 1 : Int) = c * by_ + c := by rw [Int.mul_add, Int.mul_one]
            omega
          refine sim_row (P := P) r hs (zrep_rel (pfv_refl φ hz2).cells _) el ?_
          unfold Instr.makeSlice
          simp only [Sem.run_bind, run_underlying hu, Result.andThen_ok, asInt, asIntOf, Sem.run_pure, rI hi, wrap64 (show 0 ≤ c by omega) hcc, wrap64 h1 (show l < 1099511627776 by omega)]
          have t1 : (decide (c < 0) || decide ((i.bytes : Int) * c > 2 ^ 48)) = false := by
            rw [hib]; simp only [Bool.or_eq_false_iff, decide_eq_false_iff_not]; omega
          simp only [t1, Bool.false_or]
          rw [if_neg (by simp; omega)]
          simp only [askRoom, roomBytes, hib]
          rw [if_neg (by omega)]
          simp only [Sem.run_pure, Sem.run_bind, Result.andThen_ok, rSz hk]
          by_cases hn : c.toNat * k = 0
          · have ez : zrep c.toNat (cellsL z) = [] := List.eq_nil_of_length_eq_zero (by rw [zrep_len, h4]; exact hn)
            rw [if_pos hn]
            have er : Array.range 0 = (#[] : Array Nat) := Array.eq_empty_of_size_eq_zero (by simp)
            simp [newRow, ez, hn, er]
          · rw [if_neg hn]
            simp only [Sem.run_bind, hz1, Sem.run_pure, Result.andThen_ok, newRow, run_newObj_alloc]
            rw [zarr (by rw [h4])]
        · cases hs
      · cases hs
    · cases hs
  · cases hs

/-! What is appended or copied. -/
def aSrc (k : Nat) (x : Value) (h : AH) : Option (Nat × List Value) := match x with
  | .slice none l _ => if l = 0 then some (0, []) else none
  | .slice (some a) l c => if l = 0 then some (0, []) else if c = 0 then none else (match h.cells a 0 (l * k) with
    | some cs => some (l, cs)
    | none => none)
  | .string s => if k = 1 then some (s.size, s.data.toList.map fun b => .int .u8 b.toNat) else none
  | _ => none
theorem LR.refl_bytes (l : List UInt8) : LR φ (l.map fun b => Value.int .u8 b.toNat) (l.map fun b => Value.int .u8 b.toNat) := by
  induction l with
  | nil => exact .nil
  | cons x l ih => exact .cons (.int _ _) ih
theorem src_ok (r : R w0 φ h w) {k : Nat} {x x' : Value} {n : Nat} {cs : List Value} (hs : aSrc k x h = some (n, cs)) (hx : VR φ x x') :
    (Builtin.lenOf x').run P w = .ok n w ∧ ∃ cs', (∀ w1 : World, w1.heap = w.heap → (Builtin.firstCells k n x').run P w1 = .ok ⟨cs'⟩ w1) ∧ LR φ cs cs' ∧ cs.length = n * k := by
  unfold aSrc at hs
  split at hs
  · cases hx
    split at hs
    · cases hs
      subst_vars
      exact ⟨by simp [Builtin.lenOf], [], fun w1 _ => by simp [Builtin.firstCells], .nil, by simp⟩
    · cases hs
  · rename_i a l c
    split at hs
    · cases hs
      subst_vars
      have : ∃ a' c', x' = .slice (some a') 0 c' := by cases hx <;> exact ⟨_, _, rfl⟩
      obtain ⟨a', c', rfl⟩ := this
      exact ⟨by simp [Builtin.lenOf], [], fun w1 _ => by simp [Builtin.firstCells, loadCells, loadCellsFrom], .nil, by simp⟩
    · rename_i hl
      split at hs
      · cases hs
      · rename_i hc
        split at hs
        · rename_i cs0 hcs
          cases hs
          obtain ⟨i, c', hi, hsp, rfl⟩ := hx.sl_some hc hl
          obtain ⟨l', h1, h2, h3⟩ := r.cells hi _ _ hcs
          refine ⟨by simp [Builtin.lenOf], l', fun w1 hw1 => ?_, h3, by rw [h3.length, h1]⟩
          unfold Builtin.firstCells
          exact run_loadCells_at h1 (fun j v hj => by
            have := h2 j v hj
            rw [Nat.zero_add] at this
            simp only [World.cell?] at this ⊢
            rw [hw1]; exact this)
        · cases hs
  · rename_i s
    cases hx
    split at hs
    · rename_i hk
      cases hs
      subst hk
      refine ⟨by simp [Builtin.lenOf], s.data.toList.map fun b => .int .u8 b.toNat, fun w1 _ => ?_, LR.refl_bytes _, ?_⟩
      · have e : (s.extract 0 s.size).data = s.data := by
          rw [ByteArray.data_extract]
          exact Array.extract_size
        show Sem.run P (Pure.pure (Array.map (fun b : UInt8 => Value.int IntKind.u8 b.toNat) (s.extract 0 s.size).data)) w1 = _
        rw [e]
        simp only [Sem.run_pure]
        congr 1
        apply Array.ext'
        simp
      · simp only [List.length_map, Array.length_toList, Nat.mul_one]; rfl
    · cases hs
  · cases hs

/-! Blocks that are open. -/
/-- A new name for a block that no live name has. -/
theorem R.bind (r : R w0 φ h w) {i : Im} {o : AObj} (hc : i.c < w.heap.size) (hn : h.next < T.top) (free : ∀ b j o', φ b = some j → h.m.get b = some o' → j.c ≠ i.c) (hl : w0.heap.size ≤ i.c)
    (hx : ∀ φ', Le φ φ' → OR φ' i w o) : ∃ φ', Nx φ φ' h ⟨h.m.set h.next (some o), h.next + 1⟩ ∧ φ' h.next = some i ∧ R w0 φ' ⟨h.m.set h.next (some o), h.next + 1⟩ w := by
  have le : Le φ (fun b => if b = h.next then some i else φ b) := by
    intro b j hj
    have := (r.lt b j hj).2
    show (if b = h.next then some i else φ b) = some j
    rw [if_neg (by omega)]; exact hj
  have hget : ∀ k, (h.m.set h.next (some o)).get k = if k = h.next then some o else h.m.get k := fun k => T.get_set hn k
  refine ⟨fun b => if b = h.next then some i else φ b, Nx.new le (fun b j hb => ?_) hn, if_pos rfl, ?_⟩
  · by_cases e : b = h.next
    · exact .inr e
    · exact .inl (by simpa [e] using hb)
  · refine ⟨fun k j o2 hj hk => ?_, fun k j o2 hj hk hr => ?_, fun k k' j j' o2 o3 hj hj' hk hk' hcc => ?_, fun k j hj => ?_, hn, r.below⟩
    · rw [hget] at hk
      by_cases e : k = h.next
      · subst e; rw [if_pos rfl] at hk; cases hk
        rw [if_pos rfl] at hj; cases hj
        exact hx _ le
      · rw [if_neg e] at hk hj
        exact (r.dom k j o2 hj hk).mono le
    · rw [hget] at hk
      by_cases e : k = h.next
      · subst e
        rw [if_pos rfl] at hj; cases hj
        exact hl
      · rw [if_neg e] at hk hj
        exact r.low k j o2 hj hk hr
    · rw [hget] at hk hk'
      by_cases e : k = h.next
      · by_cases e' : k' = h.next
        · rw [e, e']
        · subst e
          rw [if_pos rfl] at hj; cases hj
          rw [if_neg e'] at hj' hk'
          exact (free k' j' o3 hj' hk' hcc.symm).elim
      · by_cases e' : k' = h.next
        · subst e'
          rw [if_pos rfl] at hj'; cases hj'
          rw [if_neg e] at hj hk
          exact (free k j o2 hj hk hcc).elim
        · rw [if_neg e] at hk hj
          rw [if_neg e'] at hk' hj'
          exact r.inj k k' j j' o2 o3 hj hj' hk hk' hcc
    · by_cases e : k = h.next
      · subst e; rw [if_pos rfl] at hj; cases hj
        exact ⟨hc, Nat.lt_succ_self _⟩
      · rw [if_neg e] at hj
        have := r.lt k j hj
        exact ⟨this.1, by show k < h.next + 1; omega⟩
theorem R.allocW (r : R w0 φ h w) (x : Obj) : R w0 φ h (w.alloc x) :=
  ⟨fun b i o hi ho => (r.dom b i o hi ho).world (Below.heap_alloc w x _ (r.lt b i hi).1), r.low, r.inj, fun b i hi => ⟨by have := (r.lt b i hi).1; simp; omega, (r.lt b i hi).2⟩, r.nx, r.below.alloc r.below.size x⟩
/-- A block that no live name has may change. -/
theorem R.setFree (r : R w0 φ h w) {g : Nat} {cs : Array Value} (free : ∀ b j o', φ b = some j → h.m.get b = some o' → j.c ≠ g) (hl : w0.heap.size ≤ g) : R w0 φ h (w.setRow g cs) := by
  have hsz : (w.setRow g cs).heap.size = w.heap.size := by simp [World.setRow]
  exact ⟨fun b i o hi ho => (r.dom b i o hi ho).world (setRow_other w g _ cs (free b i o hi ho)), r.low, r.inj, fun b i hi => by rw [hsz]; exact r.lt b i hi, r.nx,
    r.below.trans ⟨rfl, rfl, rfl, by rw [hsz]; exact Nat.le_refl _, fun k hk => setRow_other w g k cs (by omega)⟩⟩
def AH.newo (h : AH) (l : List Value) (k : Nat) : Option (Nat × AH) :=
  if h.next < T.top && decide (l.length ≤ T.top) && decide (0 < k) then some (h.next, ⟨h.m.set h.next (some (.cells (T.fill l 0 .e) l.length k false)), h.next + 1⟩) else none
theorem R.newo (r : R w0 φ h w) {l l' : List Value} {k b sz d g : Nat} (hs : h.newo l k = some (b, h')) (hl : LR φ l l') {arr : Array Value} {el : TypeId} (hg : w.heap[g]? = some (.cells arr el (0, 0))) (hsz : arr.size = sz)
    (hle : l.length + d ≤ sz) (hat : ∀ j v, l'[j]? = some v → arr[j + d]? = some v) (free : ∀ b j o', φ b = some j → h.m.get b = some o' → j.c ≠ g) (hlow : w0.heap.size ≤ g) :
    ∃ φ', Nx φ φ' h h' ∧ φ' b = some ⟨g, d, l.length, sz, k⟩ ∧ R w0 φ' h' w := by
  unfold AH.newo at hs
  split at hs
  · rename_i hb
    cases hs
    simp only [Bool.and_eq_true, decide_eq_true_eq] at hb
    refine r.bind (i := ⟨g, d, l.length, sz, k⟩) (Array.getElem?_eq_some_iff.1 hg).1 hb.1.1 free hlow (fun φ' le => ⟨rfl, rfl, hb.1.2, arr, el, hg, hsz, hle, fun j hj => ?_⟩)
    obtain ⟨v', h1, h2⟩ := hl.get (List.getElem?_eq_getElem hj)
    refine ⟨l[j], v', ?_, hat j v' h1, h2.mono le⟩
    rw [T.get_fill (by omega), if_pos (by omega)]
    simp [hj]
  · cases hs
theorem newo_pos {l : List Value} {k b : Nat} (hs : h.newo l k = some (b, h')) : 0 < k := by
  unfold AH.newo at hs
  split at hs
  · rename_i hb; simp only [Bool.and_eq_true, decide_eq_true_eq] at hb; exact hb.2
  · cases hs
theorem Nx.drop {b : Nat} {i : Im} (hi : φ b = some i) (hb : b < T.top) : Nx φ φ h { h with m := h.m.set b none } :=
  ⟨Le.refl φ, Nat.le_refl _, fun k hk _ => ⟨hk, by
    show (h.m.set b none).get k = _
    rw [T.get_set hb, if_neg (fun e => by subst e; rw [hi] at hk; cases hk)]⟩⟩

/-- The part of append that grows or fills, given what is appended. -/
def aAppendTo (k : Nat) (s : Value) (n : Nat) (new : List Value) (h : AH) : Option (Value × AH) := match s with
  | .slice none l c => if l = 0 ∧ c = 0 then (if n = 0 then some (.slice none 0 0, h) else (match h.newo new k with
      | some (b, h') => some (.slice (some ⟨b, 0, none⟩) n open_, h')
      | none => none)) else none
  | .slice (some a) l c =>
    if c = open_ then (match opOf h a.block with
      | some (nn, op) => if op = k then (if a.off + (l + n) * k ≤ nn then (match h.setcs a (l * k) new with
          | some h' => some (.slice (some a) (l + n) c, h')
          | none => none)
        else (match h.cells a 0 (l * k) with
          | some old => (match ({ h with m := h.m.set a.block none } : AH).newo (old ++ new) k with
            | some (b, h') => some (.slice (some ⟨b, 0, none⟩) (l + n) open_, h')
            | none => none)
          | none => none)) else none
      | none => none)
    else if l + n ≤ c then (if n = 0 then some (s, h) else match h.setcs a (l * k) new with
          | some h' => some (.slice (some a) (l + n) c, h')
          | none => none)
    else (match (if l = 0 then some [] else if c = 0 then none else h.cells a 0 (l * k)) with
      | some old => (match h.newo (old ++ new) k with
        | some (b, h') => some (.slice (some ⟨b, 0, none⟩) (l + n) open_, h')
        | none => none)
      | none => none)
  | _ => none
/-- What the model's append does, given what is appended. -/
def appTo (k : Nat) (el : TypeId) (by_ : Nat) (zero : Array Value) (base : Option Addr) (l c n : Nat) (new : List Value) : Sem Value := do
  if l + n ≤ c then
    if let some a := base then storeCells (a.add (l * k)) new
    pure (.slice base (l + n) c)
  else
    let newCap ← choose (.appendCap (l + n) c el)
    askRoom (newCap * by_)
    let old ← Builtin.firstCells k l (.slice base l c)
    pure (.slice (some (← newRow el (old ++ ⟨new⟩ ++ Builtin.zeroCells zero (newCap - (l + n))))) (l + n) newCap)
theorem cut_ge (w : World) (need old : Nat) (e : TypeId) : need ≤ (Question.appendCap need old e).cut (w.tape w.drawn (.appendCap need old e)) := grownCap_ge w need old e
theorem run_askRoom (n : Nat) (w : World) : (askRoom n).run P w = .ok () w := by
  unfold askRoom
  split
  · simp [mark, Sem.run]
  · rfl
theorem sim_grow (r : R w0 φ h w) {k l c n b : Nat} {el : TypeId} {by_ : Nat} {zero : Value} {base : Option Addr} {old old' new new' : List Value} (hz : (cellsL zero).length = k) (hc : c < l + n)
    (hs : h.newo (old ++ new) k = some (b, h')) (hold : ∀ w1 : World, w1.heap = w.heap → (Builtin.firstCells k l (.slice base l c)).run P w1 = .ok ⟨old'⟩ w1) (ho : LR φ old old') (hn : LR φ new new')
    (hlen : (old ++ new).length = (l + n) * k) : SimV w0 P φ h w (appTo k el by_ zero.cells base l c n new') (.slice (some ⟨b, 0, none⟩) (l + n) open_) h' := by
  let cap := (Question.appendCap (l + n) c el).cut (w.tape w.drawn (.appendCap (l + n) c el))
  have hcap : l + n ≤ cap := cut_ge w _ _ _
  have hpos := newo_pos hs
  have hlen' : (old' ++ new').length = (l + n) * k := by rw [← hlen]; exact (ho.append hn).length.symm
  let arr : Array Value := (⟨old'⟩ ++ ⟨new'⟩ ++ Builtin.zeroCells zero.cells (cap - (l + n)))
  have harr : arr = ⟨old' ++ new' ++ zrep (cap - (l + n)) (cellsL zero)⟩ := by
    show (⟨old'⟩ ++ ⟨new'⟩ ++ Builtin.zeroCells zero.cells (cap - (l + n)) : Array Value) = _
    rw [zcells]
    apply Array.ext'
    simp
  have hsize : arr.size = cap * k := by
    rw [harr]
    simp only [List.size_toArray, List.length_append] at hlen' ⊢
    rw [hlen', zrep_len, hz, ← Nat.add_mul]
    congr 1; omega
  have r1 : R w0 φ h (w.drew.alloc (.cells arr el (0, 0))) := r.drew.allocW _
  have hw : w.drew.heap = w.heap := rfl
  have hg : (w.drew.alloc (.cells arr el (0, 0))).heap[w.heap.size]? = some (.cells arr el (0, 0)) := by
    show (w.drew.heap.push _)[w.heap.size]? = _
    rw [hw]; simp
  have hle : (l + n) * k ≤ cap * k := Nat.mul_le_mul_right _ hcap
  obtain ⟨φ', nx, hb, r'⟩ := r1.newo (sz := cap * k) (d := 0) hs (ho.append hn) hg hsize (by rw [hlen]; omega)
    (fun j v hj => by
      rw [harr]
      have := (List.getElem?_eq_some_iff.1 hj).1
      simp only [Nat.add_zero]
      rw [List.getElem?_toArray]
      rw [List.getElem?_append_left this]; exact hj)
    (fun b j o' hb _ => by have := (r.lt b j hb).1; omega) r.below.size
  refine ⟨.slice (some ⟨w.heap.size, 0, none⟩) (l + n) cap, w.drew.alloc (.cells arr el (0, 0)), φ', ?_, nx, r', ?_⟩
  · unfold appTo
    rw [if_neg (by omega)]
    simp only [Sem.run_bind, run_choose_drew]
    have hf : (Question.appendCap (l + n) c el).forced = false := rfl
    rw [hf]
    simp only [Bool.false_eq_true, if_false, Result.andThen_ok, run_askRoom, hold w.drew rfl, newRow, Sem.run_bind, run_newObj_alloc, Sem.run_pure]
    rfl
  · refine .opens (a := ⟨b, 0, none⟩) (c' := cap) ⟨w.heap.size, 0, (old ++ new).length, cap * k, k⟩ hb rfl hpos hcap ?_ ?_ (fun _ => rfl)
    · show (old ++ new).length ≤ 0 + cap * k
      rw [hlen]; omega
    · show 0 + 0 + cap * k ≤ cap * k
      omega
end
end Go.X
