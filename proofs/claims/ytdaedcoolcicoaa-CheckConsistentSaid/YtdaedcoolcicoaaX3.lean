/- The closed evaluator, part 3: operations that make, read and write cells. -/
import Derived.Test.YtdaedcoolcicoaaX2
namespace Go.X
noncomputable section
open Go Go.RowKit

/-- One heap after another. -/
structure Nx (φ φ' : Phi) (h h' : AH) : Prop where
  le : Le φ φ'
  next : h.next ≤ h'.next
  ghost : ∀ b, φ b = none → b < h.next → φ' b = none ∧ h'.m.get b = h.m.get b
theorem Nx.refl (φ : Phi) (h : AH) : Nx φ φ h h := ⟨Le.refl φ, Nat.le_refl _, fun _ h _ => ⟨h, rfl⟩⟩
theorem Nx.trans {φ φ' φ'' : Phi} {h h' h'' : AH} (a : Nx φ φ' h h') (b : Nx φ' φ'' h' h'') : Nx φ φ'' h h'' :=
  ⟨a.le.trans b.le, Nat.le_trans a.next b.next, fun k hk hl => by
    obtain ⟨h1, h2⟩ := a.ghost k hk hl
    obtain ⟨h3, h4⟩ := b.ghost k h1 (Nat.lt_of_lt_of_le hl a.next)
    exact ⟨h3, h4.trans h2⟩⟩

variable {w0 w w' : World} {φ φ' : Phi} {h h' : AH} {P : Program} {n : Nat} {t : T Value}

/-- A step that gives a value. -/
def SimV (w0 : World) (P : Program) (φ : Phi) (h : AH) (w : World) (s : Sem Value) (v : Value) (h' : AH) : Prop :=
  ∃ v' w' φ', s.run P w = .ok v' w' ∧ Nx φ φ' h h' ∧ R w0 φ' h' w' ∧ VR φ' v v'
theorem SimV.pure (r : R w0 φ h w) {v v' : Value} (hv : VR φ v v') : SimV w0 P φ h w (Pure.pure v') v h := ⟨v', w, φ, rfl, .refl φ h, r, hv⟩
theorem SimV.here (r : R w0 φ h w) {v v' : Value} {s : Sem Value} (hs : s.run P w = .ok v' w) (hv : VR φ v v') : SimV w0 P φ h w s v h := ⟨v', w, φ, hs, .refl φ h, r, hv⟩

/-- What a step of the model does that touches nothing. -/
def pureRun {α : Type} (P : Program) : Sem α → Option α
  | .pure a => some a
  | .program k => pureRun P (k P)
  | .mark _ k => pureRun P k
  | _ => none
theorem run_of_pure {α : Type} {e : Sem α} {a : α} (h : pureRun P e = some a) (w : World) : e.run P w = .ok a w := by
  induction e with
  | pure x => simp only [pureRun] at h; cases h; rfl
  | program k ih => simp only [pureRun] at h; exact ih P h
  | mark m k ih => simp only [pureRun] at h; exact ih h
  | _ => simp [pureRun] at h

def aEv (t : T Value) : Operand → Option Value
  | .tmp k => some ((t.get k).getD undef)
  | .const v => if pfv v then some v else none
  | .func f => some (.func (.func f) #[] #[])
  | .global _ => none
theorem VR.undef : VR φ undef undef := .tuple' .nil
theorem FR.at {a : Array Value} (f : FR φ n t a) (k : Nat) : k < n → VR φ ((t.get k).getD Go.undef) (a.getD k Go.undef) := by
  intro hk
  have : a[k]? = some (a.getD k Go.undef) := by
    rw [Array.getD_eq_getD_getElem?, Array.getElem?_eq_getElem (by rw [f.size]; exact hk)]; simp
  exact f.get k _ this
def opnOk (n : Nat) : Operand → Bool
  | .tmp k => decide (k < n)
  | _ => true
theorem aEv_ok {a : Act} (f : FR φ n t a.tmps) {x : Operand} {v : Value} (hn : opnOk n x = true) (h : aEv t x = some v) : VR φ v (a.eval x) := by
  cases x with
  | tmp k => simp only [aEv] at h; cases h; exact f.at k (by simpa [opnOk] using hn)
  | const v =>
    simp only [aEv] at h
    split at h
    · cases h; exact pfv_refl φ ‹_›
    · cases h
  | func k => simp only [aEv] at h; cases h; exact .func' (.same (fun l e => by cases e)) .nil .nil
  | global g => simp [aEv] at h

/-! The types' table. -/
def isAg : TypeDesc → Bool
  | .struct _ | .array _ _ => true
  | _ => false
theorem rU {T : TypeId} {d : TypeDesc} (h : P.underlying T = some d) (w : World) : (underlying T).run P w = .ok d w := run_underlying h w
theorem rI {T : TypeId} {d : TypeInfo} (h : P.info? T = some d) (w : World) : (typeInfo T).run P w = .ok d w := by simp [typeInfo, h]
theorem rS {T : TypeId} {d : TypeInfo} (h : P.info? T = some d) (w : World) : (sizeOf T).run P w = .ok d.size w := by simp [sizeOf, typeInfo, h]
theorem rZ {T : TypeId} {d : TypeInfo} {z : Value} (h : P.info? T = some d) (hz : d.zero = some z) (w : World) : (zeroValue T).run P w = .ok z w := by simp [zeroValue, typeInfo, h, hz]
theorem rA {T : TypeId} {d : TypeDesc} (h : P.underlying T = some d) (w : World) : (isAgg T).run P w = .ok (isAg d) w := by
  unfold isAgg
  simp only [Sem.run_bind, rU h, Result.andThen_ok]
  cases d <;> simp [isAg]
def szOf (P : Program) (T : TypeId) : Option Nat := (P.info? T).map (·.size)
theorem rSz {T : TypeId} {k : Nat} (h : szOf P T = some k) (w : World) : (sizeOf T).run P w = .ok k w := by
  unfold szOf at h
  obtain ⟨i, h1, h2⟩ := Option.map_eq_some_iff.1 h
  rw [← h2]; exact rS h1 w
def zeroOf (P : Program) (T : TypeId) : Option Value := match P.info? T with
  | some i => match i.zero with
    | some z => if pfv z then some z else none
    | none => none
  | none => none
theorem rZero {T : TypeId} {z : Value} (h : zeroOf P T = some z) (w : World) : (zeroValue T).run P w = .ok z w ∧ pfv z = true := by
  unfold zeroOf at h
  split at h
  · rename_i i hi
    split at h
    · rename_i z' hz
      split at h
      · cases h; exact ⟨rZ hi hz w, ‹_›⟩
      · cases h
    · cases h
  · cases h

/-! New variables. -/
def aBox (v : Value) (h : AH) : Option (Value × AH) := match h.newc (cellsL v) with
  | some (b, h') => some (.pointer (some ⟨b, 0, none⟩), h')
  | none => none
theorem Nx.new (le : Le φ φ') {o : AObj} (hb : ∀ b i, φ' b = some i → φ b = some i ∨ b = h.next) (hn : h.next < T.top) : Nx φ φ' h ⟨h.m.set h.next (some o), h.next + 1⟩ :=
  ⟨le, Nat.le_succ _, fun b h1 h2 => ⟨by
    cases hb' : φ' b with
    | none => rfl
    | some i => rcases hb b i hb' with h3 | h3
                · rw [h1] at h3; cases h3
                · omega, by
    show (h.m.set h.next (some o)).get b = _
    rw [T.get_set hn, if_neg (by omega)]⟩⟩
theorem R.newc' (r : R w0 φ h w) {l l' : List Value} {b : Nat} (hs : h.newc l = some (b, h')) (hl : LR φ l l') (el : TypeId) :
    ∃ φ', Nx φ φ' h h' ∧ φ' b = some ⟨w.heap.size, 0, l.length, l.length, 0⟩ ∧ R w0 φ' h' (w.alloc (.cells ⟨l'⟩ el (0, 0))) := by
  have hs' := hs
  unfold AH.newc at hs'
  split at hs'
  · rename_i hb
    cases hs'
    simp only [Bool.and_eq_true, decide_eq_true_eq] at hb
    obtain ⟨φ', le, h2, h3, h4⟩ := r.newc2 hs hl el
    exact ⟨φ', .new le h4 hb.1, h2, h3⟩
  · cases hs'
theorem sim_box (r : R w0 φ h w) {v v' p : Value} {el : TypeId} (hs : aBox v h = some (p, h')) (hv : VR φ v v') : SimV w0 P φ h w (Instr.box el v') p h' := by
  unfold aBox at hs
  split at hs
  · rename_i b h1 hn
    cases hs
    obtain ⟨φ', nx, hb, r'⟩ := r.newc' hn hv.cells el
    refine ⟨_, _, φ', ?_, nx, r', .ptr _ hb rfl⟩
    simp only [Instr.box, newVar, newRow, Sem.run_bind, run_newObj_alloc, Result.andThen_ok, Sem.run_pure, cells_eq, Nat.add_zero]
  · cases hs
def aAlloc (P : Program) (el : TypeId) (h : AH) : Option (Value × AH) := match zeroOf P el with
  | some z => aBox z h
  | none => none
theorem sim_alloc (r : R w0 φ h w) {p : Value} {el : TypeId} (hs : aAlloc P el h = some (p, h')) : SimV w0 P φ h w (Instr.alloc el true (.tuple #[])) p h' := by
  unfold aAlloc at hs
  split at hs
  · rename_i z hz
    obtain ⟨h1, h2⟩ := rZero hz w
    obtain ⟨v', w', φ', h3, h4⟩ := sim_box (P := P) (el := el) r hs (pfv_refl φ h2)
    refine ⟨v', w', φ', ?_, h4⟩
    simp only [Instr.box] at h3
    simp only [Instr.alloc, Sem.run_bind, h1, Result.andThen_ok]
    simpa only [Sem.run_bind] using h3
  · cases hs

/-! Loads and stores. -/
def aLoad (P : Program) (T : TypeId) (a : Addr) (h : AH) : Option Value := match P.underlying T with
  | some d => if isAg d then (match szOf P T with
      | some k => (match a.spot, h.cells a 0 k with
        | none, some l => some (.agg ⟨l⟩)
        | _, _ => none)
      | none => none) else h.cell a
  | none => none
theorem run_loadVar_at (r : R w0 φ h w) {a : Addr} {i : Im} {T : TypeId} {v : Value} (hi : φ a.block = some i) (hs : aLoad P T a h = some v) :
    ∃ v', (loadVar T ⟨i.c, a.off + i.d, none⟩).run P w = .ok v' w ∧ VR φ v v' := by
  unfold aLoad at hs
  split at hs
  · rename_i d hd
    unfold loadVar
    simp only [Sem.run_bind, rA hd, Result.andThen_ok]
    split at hs
    · rename_i hag
      split at hs
      · rename_i k hk
        split at hs
        · rename_i l hsp hl
          cases hs
          obtain ⟨l', h1, h2, h3⟩ := r.cells hi _ _ hl
          rw [hag]
          simp only [if_true, Sem.run_bind, rSz hk, Result.andThen_ok]
          rw [run_loadCells_at h1 (fun j v hj => by have := h2 j v hj; rwa [Nat.zero_add] at this)]
          exact ⟨_, rfl, .agg' h3⟩
        · cases hs
      · cases hs
    · rename_i hag
      obtain ⟨v', h1, _, h2⟩ := r.cell hi hs
      simp only [Bool.not_eq_true] at hag
      rw [hag]
      simp only [Bool.false_eq_true, if_false, run_load, h1]
      exact ⟨v', rfl, h2⟩
  · cases hs
theorem VR.ptr_inv {v : Value} {a : Addr} (hv : VR φ (.pointer (some a)) v) : ∃ i, φ a.block = some i ∧ a.spot = none ∧ v = .pointer (some ⟨i.c, a.off + i.d, none⟩) := by
  cases hv with
  | ptr i hi hs => exact ⟨i, hi, hs, rfl⟩
theorem sim_load (r : R w0 φ h w) {a : Addr} {T : TypeId} {v v' : Value} (hs : aLoad P T a h = some v) (hv : VR φ (.pointer (some a)) v') : SimV w0 P φ h w (Instr.loadAt T v') v h := by
  obtain ⟨i, hi, _, rfl⟩ := hv.ptr_inv
  obtain ⟨u, h1, h2⟩ := run_loadVar_at r hi hs
  exact .here r (by simpa [Instr.loadAt, Instr.sureAddr] using h1) h2
theorem Nx.put {b : Nat} {i : Im} {o : AObj} (hi : φ b = some i) (hb : b < T.top) : Nx φ φ h { h with m := h.m.set b (some o) } :=
  ⟨Le.refl φ, Nat.le_refl _, fun k hk _ => ⟨hk, by
    show (h.m.set b (some o)).get k = _
    rw [T.get_set hb, if_neg (fun e => by subst e; rw [hi] at hk; cases hk)]⟩⟩
theorem setc_shape {a : Addr} {v : Value} (hs : h.setc a v = some h') : ∃ o, h' = { h with m := h.m.set a.block (some o) } := by
  unfold AH.setc at hs
  split at hs
  · split at hs
    · split at hs
      · cases hs; exact ⟨_, rfl⟩
      · cases hs
    · cases hs
  · cases hs
theorem Nx.setcs {a : Addr} {i : Im} (hi : φ a.block = some i) (hb : a.block < T.top) : ∀ (l : List Value) (k : Nat) {h : AH}, h.setcs a k l = some h' → Nx φ φ h h' := by
  intro l
  induction l with
  | nil => intro k h hs; simp only [AH.setcs] at hs; cases hs; exact .refl φ _
  | cons v l ih =>
    intro k h hs
    simp only [AH.setcs] at hs
    split at hs
    · split at hs
      · rename_i h2 hset
        obtain ⟨o, rfl⟩ := setc_shape hset
        exact (Nx.put hi hb).trans (ih _ hs)
      · cases hs
    · cases hs
def aStore (P : Program) (T : TypeId) (a : Addr) (v : Value) (h : AH) : Option AH := match szOf P T with
  | some k => if (cellsL v).length = k then h.setcs a 0 (cellsL v) else none
  | none => none
theorem sim_store (r : R w0 φ h w) {a : Addr} {T : TypeId} {v v' p : Value} (hs : aStore P T a v h = some h') (hp : VR φ (.pointer (some a)) p) (hv : VR φ v v') :
    ∃ w', (Instr.storeAt T p v').run P w = .ok () w' ∧ Nx φ φ h h' ∧ R w0 φ h' w' := by
  obtain ⟨i, hi, _, rfl⟩ := hp.ptr_inv
  unfold aStore at hs
  split at hs
  · rename_i k hk
    split at hs
    · rename_i hl
      obtain ⟨w', h1, h2⟩ := R.setcs hi _ 0 r hs hv.cells
      refine ⟨w', ?_, .setcs hi (Nat.lt_of_lt_of_le (r.lt _ _ hi).2 r.nx) _ _ hs, h2⟩
      have hc : v'.cells.size = k := by rw [cells_eq]; simp [← hv.cells.length, hl]
      simp only [Instr.storeAt, Instr.sureAddr, storeVar, Sem.run_bind, Sem.run_pure, Result.andThen_ok, rSz hk, hc, ne_eq, not_true_eq_false, if_false]
      rw [cellsL_eq]
      exact h1
    · cases hs
  · cases hs
end
end Go.X
