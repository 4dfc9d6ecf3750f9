/- Rules for steps of the code over memory with claims. -/
import Derived.Test.YtdaedcoolcicoaaCore1
import Derived.MapKept
import Derived.Maps.RangeRun
namespace Go.Arm
open Go Go.RowKit
theorem get_skip {a r : List Value} {n k : Nat} (h : a.length = n) : (a ++ r)[n + k]? = r[k]? := by
  rw [List.getElem?_append_right (by omega)]; congr 1; omega
theorem get_here {b c : List Value} {j : Nat} (hj : j < b.length) : (b ++ c)[j]? = some b[j] := by
  rw [List.getElem?_append_left hj, List.getElem?_eq_getElem hj]
theorem splice_fields {cs cs' b ks : List Value} {a c : List (List Value)} {off : Nat} (ha : a.flatten.length = off) (hb : b.length = ks.length)
    (h1 : cs = a.flatten ++ b ++ c.flatten) (h2 : cs' = a.flatten ++ ks ++ c.flatten) : splice cs off ks = cs' := by
  subst h1 h2 ha
  unfold splice
  simp only [List.append_assoc]
  rw [List.take_left, ← List.drop_drop, List.drop_left, ← hb, List.drop_left]
theorem V.one {α : Type} [Rep α] {s : St} {v : Value} {x : α} (h : V s v x) (ha : Rep.agg α = false) : Rep.rel s [v] x := by
  obtain ⟨cs, h1, e⟩ := h
  have hl := Rep.len h1
  rw [Rep.single ha] at hl
  match cs, hl with
  | [c], _ =>
    rw [ha] at e
    simp [pack] at e
    rw [e]; exact h1
end Go.Arm
namespace Go.Arm
open Go Go.RowKit

/-- A predicate on a value that further steps keep. -/
structure PV where
  p : Value → St → Prop
  m : ∀ v s s', p v s → Ext s s' → p v s'
def PV.eq (x : Value) : PV := ⟨fun v _ => v = x, fun _ _ _ h _ => h⟩
def PV.any : PV := ⟨fun _ _ => True, fun _ _ _ h _ => h⟩
def PV.data {α : Type} [Rep α] (x : α) : PV := ⟨fun v s => V s v x, fun _ _ _ h e => h.mono e.le⟩
def PV.ptr {α : Type} [Rep α] (x : α) : PV := ⟨fun v s => Ptr s v x, fun _ _ _ h e => h.mono e.le⟩
def PV.two (a b : PV) : PV := ⟨fun v s => ∃ x y, v = .tuple #[x, y] ∧ a.p x s ∧ b.p y s, fun _ s s' ⟨x, y, e, h, k⟩ l => ⟨x, y, e, a.m x s s' h l, b.m y s s' k l⟩⟩
def PV.three (a b c : PV) : PV := ⟨fun v s => ∃ x y z, v = .tuple #[x, y, z] ∧ a.p x s ∧ b.p y s ∧ c.p z s, fun _ s s' ⟨x, y, z, e, h, k, j⟩ l => ⟨x, y, z, e, a.m x s s' h l, b.m y s s' k l, c.m z s s' j l⟩⟩

def dstOf (ops : Array Oper) (j : Nat) : Option Nat := (ops[j]?).bind (·.dst)
def unwritten (ops : Array Oper) (t : Nat) : Bool := ops.toList.all fun o => o.dst != some t

section
variable {P : Program} {n : Nat} {Q : Post} {f : Fr}
def Steps (P : Program) (n : Nat) (ops : Array Oper) (pvs : List PV) (f : Fr) (s : St) : List Oper → Nat → Prop
  | [], _ => True
  | o :: r, i => (∀ f' s', Ext s s' → (∀ j d, aheadOf o j = true → dstOf ops j = some d → (pvs.getD j PV.any).p (f' d) s') → (∀ t, slotFree ops i t = true → f' t = f t) →
      StepAt P n ops o f' s' (pvs.getD i PV.any).p) ∧ Steps P n ops pvs f s r (i + 1)
theorem Steps_nil {ops : Array Oper} {pvs : List PV} {s : St} {i : Nat} : Steps P n ops pvs f s [] i := trivial
theorem Steps_cons {ops : Array Oper} {pvs : List PV} {s : St} {i : Nat} {o : Oper} {r : List Oper}
    (h : ∀ f' s', Ext s s' → (∀ j d, aheadOf o j = true → dstOf ops j = some d → (pvs.getD j PV.any).p (f' d) s') → (∀ t, slotFree ops i t = true → f' t = f t) →
      StepAt P n ops o f' s' (pvs.getD i PV.any).p) (k : Steps P n ops pvs f s r (i + 1)) : Steps P n ops pvs f s (o :: r) i := ⟨h, k⟩

theorem Steps.get {ops : Array Oper} {pvs : List PV} {s : St} : ∀ {l : List Oper} {k : Nat}, Steps P n ops pvs f s l k → ∀ (i : Nat) (o : Oper), l[i]? = some o → ∀ f' s', Ext s s' →
      (∀ j d, aheadOf o j = true → dstOf ops j = some d → (pvs.getD j PV.any).p (f' d) s') → (∀ t, slotFree ops (k + i) t = true → f' t = f t) → StepAt P n ops o f' s' (pvs.getD (k + i) PV.any).p
  | [], _, _, i, o, h => by simp at h
  | a :: l, k, ⟨h1, h2⟩, 0, o, h => by simp at h; subst h; exact h1
  | a :: l, k, ⟨h1, h2⟩, i + 1, o, h => by
    have := Steps.get h2 i o (by simpa using h)
    rw [show k + 1 + i = k + (i + 1) by omega] at this
    exact this

theorem W_draws {id : Nat} {s : St} {l : List Oper} (hm : P.follows .mixedOrders = true) (hok : drawOk n l.toArray = true) (pvs : List PV) (steps : Steps P n l.toArray pvs f s l 0)
    (fin : ∀ f' s', Ext s s' → (∀ j d, dstOf l.toArray j = some d → (pvs.getD j PV.any).p (f' d) s') → (∀ t, unwritten l.toArray t = true → f' t = f t) → Q .normal f' s'.w) :
    W P n (.region id l.toArray true) Q f s.w := by
  refine W_draw hm hok (fun i => (pvs.getD i PV.any).p) (fun i v s s' h e => (pvs.getD i PV.any).m v s s' h e) ?_ ?_
  · intro i o ho f' s' hE hA hB
    have := Steps.get steps i o (by simpa using ho) f' s' hE ?_ (by simpa using hB)
    · simpa using this
    · intro j d h1 h2
      unfold dstOf at h2
      obtain ⟨o', h3, h4⟩ := Option.bind_eq_some_iff.1 h2
      exact hA j o' d h1 h3 h4
  · intro f' s' hE hA hB
    refine fin f' s' hE ?_ ?_
    · intro j d h2
      unfold dstOf at h2
      obtain ⟨o', h3, h4⟩ := Option.bind_eq_some_iff.1 h2
      exact hA j o' d h3 h4
    · intro t ht
      refine hB t (fun j o' ho hd => ?_)
      unfold unwritten at ht
      rw [List.all_eq_true] at ht
      have := ht o' (by obtain ⟨h1, h2⟩ := Array.getElem?_eq_some_iff.1 ho; rw [← h2]; simp)
      rw [hd] at this
      simp at this
end
end Go.Arm
namespace Go.Arm
theorem W_cut {P : Program} {n : Nat} {Q : Post} {f : Fr} {w : World} {c : Code} (J : Fr → World → Prop) (h : W P n c (Then J Q) f w) (k : ∀ f w, J f w → Q .normal f w) : W P n c Q f w :=
  W_mono h fun e f w q => by cases e with | normal => exact k _ _ q | _ => exact q
end Go.Arm
namespace Go.Arm
open Go Go.RowKit

/-- A pointer to a datum, itself a datum. -/
structure Ref (α : Type) where
  x : α
instance {α : Type} [Rep α] : Rep (Ref α) where
  size := 1
  agg := false
  rel s cs r := ∃ v, cs = [v] ∧ Ptr s v r.x
  len := by rintro s cs r ⟨v, rfl, _⟩; rfl
  mono := by rintro s s' cs r l ⟨v, e, h⟩; exact ⟨v, e, h.mono l⟩
  one := by
    rintro s cs r ⟨v, rfl, b, o, ks, rfl, _⟩ u hu
    simp at hu; rw [hu]; rfl
  single _ := rfl
theorem Ptr.toV {α : Type} [Rep α] {s : St} {v : Value} {x : α} (h : Ptr s v x) : V s v (⟨x⟩ : Ref α) := ⟨[v], ⟨v, rfl, h⟩, rfl⟩
theorem V.toPtr {α : Type} [Rep α] {s : St} {v : Value} {r : Ref α} (h : V s v r) : Ptr s v r.x := by
  obtain ⟨cs, ⟨u, rfl, hp⟩, rfl⟩ := h; exact hp

section
variable {P : Program} {n : Nat} {Q : Post} {f : Fr} {w : World} {ops : Array Oper} {rest : List Oper} {s : St}
variable {d : Nat} {ty : TypeId} {pos : String} {aft : Array Edge} {α β : Type} [Rep α] [Rep β]

theorem L_max {x y : Operand} {tys : Array TypeId} {k : IntKind} {a b : Int} (hx : ev f x = .int k a) (hy : ev f y = .int k b) (hd : d < n)
    (h : L P n ops Q rest (upd f d (.int k (max a b))) w) : L P n ops Q (⟨some d, .call ⟨.builtin .max, #[x, y], tys⟩, ty, pos, aft, none⟩ :: rest) f w :=
  L_val (v := .int k (max a b)) rfl (fun k e => by cases e; exact hd) (by
    have : (if b > a then b else a) = max a b := by split <;> omega
    simp only [execOp, resolve, invoke, builtin, Builtin.max_, List.map_toArray, List.map_cons, List.map_nil, hx, hy, Sem.run_bind, Sem.run_pure, Result.andThen_ok, List.foldlM_cons, List.foldlM_nil, Builtin.max2, this]) h
/-- A store that is the last one: from here on a pointer to the datum. -/
theorem L_store_ro {T E : TypeId} {x a : Operand} {v : Value} {b : Nat} {old y : α} (hT : Ty P T α) (ha : ev f a = .pointer (some ⟨b, 0, none⟩)) (hx : ev f x = v) (hV : V s v y) (hM : Var s b E old)
    (h : ∀ s', Tch (fun k => k = b) s s' → Ptr s' (.pointer (some ⟨b, 0, none⟩)) y → L P n ops Q rest f s'.w) :
    L P n ops Q (⟨none, .store T a x, ty, pos, aft, none⟩ :: rest) f s.w := by
  refine L_store hT ha hx hV hM (fun s' t hv => ?_)
  obtain ⟨s'', e, t', hp, _⟩ := hv.ptr
  rw [← e]
  exact h s'' (t.trans t' (fun x hx => .inl hx)) hp

/-- Fields of plain kinds, compared one after the other. -/
def plainEq (P : Program) (T : TypeId) (a b : Value) : Option Bool :=
  match P.underlying T, a, b with
  | some (.int _), .int k x, .int k' y => if k = k' then some (x == y) else none
  | some .bool, .bool x, .bool y => some (x == y)
  | _, _, _ => none
def fieldsEq (P : Program) (xs ys : Array Value) : List Field → Option Bool
  | [] => some true
  | f :: fs => if f.name = "_" then none else
    match xs[f.offset]?, ys[f.offset]? with
    | some a, some b => match plainEq P f.type a b, fieldsEq P xs ys fs with
      | some r, some q => some (r && q)
      | _, _ => none
    | _, _ => none
end
end Go.Arm
namespace Go.Arm
theorem Parts_nil {f : Fr} {k : Nat} : Parts f [] [] k := trivial
theorem Parts_cons {f : Fr} {i k : Nat} {x : Operand} {r : List (Nat × Operand)} {v : Value} {vs : List Value} (e : i = k) (h : ev f x = v) (t : Parts f r vs (k + 1)) : Parts f ((i, x) :: r) (v :: vs) k := ⟨e, h, t⟩
end Go.Arm
namespace Go.Arm
section
variable {P : Program} {s : St} {α β : Type} [Rep α] [Rep β] {k : FuncId} {p : α → Option β} {q : Option β} {c1 c2 c3 : Value}
theorem Fn1.mk0 (hk : Callee P k) (h : ∀ s' vx x r, Le s s' → V s' vx x → p x = some r → Calls P k #[vx] s'.w (Ret s' fun v s'' => V s'' v r)) : Fn1 P s (.func (.func k) #[] #[]) p :=
  ⟨k, _, rfl, hk, fun s' vx x r a b c => by have := h s' vx x r a b c; simpa using this⟩
end
end Go.Arm
namespace Go.Arm
open Go Go.RowKit

/-- A predicate on a value, with the blocks that belong to it alone. -/
structure PX where
  p : Value → St → Prop
  own : Value → Nat → Prop
  m : ∀ {M : Nat → Prop} {v : Value} {s s' : St}, p v s → Tch M s s' → (∀ b, own v b → ¬ M b) → p v s'
  lt : ∀ {v : Value} {s : St} {b : Nat}, p v s → own v b → b < s.w.heap.size

def PX.eq (x : Value) : PX := ⟨fun v _ => v = x, fun _ _ => False, fun h _ _ => h, fun _ h => h.elim⟩
def PX.any : PX := ⟨fun _ _ => True, fun _ _ => False, fun h _ _ => h, fun _ h => h.elim⟩
def PX.data {α : Type} [Rep α] (x : α) : PX := ⟨fun v s => V s v x, fun _ _ => False, fun h t _ => h.mono t.le, fun _ h => h.elim⟩
def PX.ptr {α : Type} [Rep α] (x : α) : PX := ⟨fun v s => Ptr s v x, fun _ _ => False, fun h t _ => h.mono t.le, fun _ h => h.elim⟩
def ownP (v : Value) (b : Nat) : Prop := v = .pointer (some ⟨b, 0, none⟩)
/-- A changing variable from block B on. -/
def PX.var {α : Type} [Rep α] (B : Nat) (E : TypeId) (x : α) : PX :=
  ⟨fun v s => ∃ b, v = .pointer (some ⟨b, 0, none⟩) ∧ B ≤ b ∧ Var s b E x, ownP,
   fun ⟨b, e, hb, h⟩ t hn => ⟨b, e, hb, h.tch t (hn b e)⟩, fun ⟨b, e, _, h⟩ hb => by rw [e] at hb; cases hb; exact h.lt⟩
def PX.bld {α : Type} [Rep α] (B : Nat) (E : TypeId) (xs : List α) : PX :=
  ⟨fun v s => Bld s B E v xs, Arm.own, fun h t hn => h.tch t hn, fun h hb => (h.lt hb).2⟩

section
variable {P : Program} {n : Nat} {Q : Post} {f : Fr} {ops : Array Oper}

/-- The static data of such a region: of each operation (and behind them of each block that was there) its slot, and what it uses up. -/
structure Plan where
  pxs : List PX
  slots : List Nat
  cons : List (List Nat)

def Plan.px (pl : Plan) (j : Nat) : PX := pl.pxs.getD j PX.any
def Plan.slot (pl : Plan) (j : Nat) : Nat := pl.slots.getD j 0
def Plan.con (pl : Plan) (i : Nat) : List Nat := pl.cons.getD i []

/-- The blocks that were there and may be written. -/
def Plan.ent (pl : Plan) (ops : Array Oper) (f : Fr) : Nat → Prop := fun b => ∃ j, ops.size ≤ j ∧ j < pl.slots.length ∧ (pl.px j).own (f (pl.slot j)) b

/-- May operation i use what j gave? -/
def avail (ops : Array Oper) (cons : List (List Nat)) (i j : Nat) : Bool :=
  (decide (ops.size ≤ j) || (match ops[i]? with | some o => aheadOf o j | none => false)) &&
  (List.range ops.size).all fun k => !(cons.getD k []).contains j || decide (k = i) || (match ops[k]? with | some o => aheadOf o i | none => false)

/-- The static conditions. -/
def planOk (n : Nat) (ops : Array Oper) (slots : List Nat) (cons : List (List Nat)) : Bool :=
  (List.range ops.size).all fun i => match ops[i]? with
    | none => true
    | some o => o.after.toList.all (fun e => !Region.binds .any e || decide (e.on < i)) &&
      (match o.dst with
       | none => true
       | some d => decide (d < n) && decide (slots.getD i 0 = d) &&
          (List.range slots.length).all fun j => decide (j = i) || decide (slots.getD j 0 ≠ d) || (match ops[j]? with | some o' => o'.dst.isNone && aheadOf o' i | none => false) ||
            (decide (ops.size ≤ j) && (List.range ops.size).any fun k => (cons.getD k []).contains j && aheadOf o k)) &&
      (cons.getD i []).all (fun j => avail ops cons i j && decide (j < slots.length)) && decide (i < slots.length)

structure PlanSpec (n : Nat) (ops : Array Oper) (slots : List Nat) (cons : List (List Nat)) : Prop where
  edge : ∀ (i : Nat) (o : Oper), ops[i]? = some o → ∀ e, e ∈ o.after.toList → Region.binds .any e = true → e.on < i
  dst : ∀ (i : Nat) (o : Oper) (d : Nat), ops[i]? = some o → o.dst = some d → d < n ∧ slots.getD i 0 = d
  uniq : ∀ (i : Nat) (o : Oper) (d : Nat) (j : Nat), ops[i]? = some o → o.dst = some d → j < slots.length → j ≠ i → slots.getD j 0 = d → (∃ o', ops[j]? = some o' ∧ o'.dst = none ∧ aheadOf o' i = true) ∨ (ops.size ≤ j ∧ ∃ k, j ∈ cons.getD k [] ∧ aheadOf o k = true)
  con : ∀ (i : Nat) (o : Oper), ops[i]? = some o → ∀ j, j ∈ cons.getD i [] → avail ops cons i j = true ∧ j < slots.length
  len : ∀ (i : Nat) (o : Oper), ops[i]? = some o → i < slots.length

theorem planOk_spec {slots : List Nat} {cons : List (List Nat)} (h : planOk n ops slots cons = true) : PlanSpec n ops slots cons := by
  unfold planOk at h
  rw [List.all_eq_true] at h
  have key : ∀ (i : Nat) (o : Oper), ops[i]? = some o → _ := fun i o ho => by
    have := h i (by simpa using (Array.getElem?_eq_some_iff.1 ho).1)
    rw [ho] at this
    exact this
  simp only [Bool.and_eq_true, List.all_eq_true, decide_eq_true_eq] at key
  refine ⟨fun i o ho e he hb => ?_, fun i o d ho hd => ?_, fun i o d j ho hd hj hne hs => ?_, fun i o ho j hj => (key i o ho).1.2 j hj, fun i o ho => (key i o ho).2⟩
  · have := (key i o ho).1.1.1 e he
    simpa [hb] using this
  · have := (key i o ho).1.1.2
    rw [hd] at this
    simp only [Bool.and_eq_true, decide_eq_true_eq] at this
    exact this.1
  · have := (key i o ho).1.1.2
    rw [hd] at this
    simp only [Bool.and_eq_true, decide_eq_true_eq, List.all_eq_true] at this
    have h2 := this.2 j (by simpa using hj)
    simp only [hne, decide_false, Bool.false_or, hs, ne_eq, not_true] at h2
    rcases Bool.or_eq_true _ _ ▸ h2 with h2 | h2
    · left
      cases ho' : ops[j]? with
      | none => rw [ho'] at h2; simp at h2
      | some o' =>
        rw [ho'] at h2
        simp only [Bool.and_eq_true, Option.isNone_iff_eq_none] at h2
        exact ⟨o', rfl, h2.1, h2.2⟩
    · right
      simp only [Bool.and_eq_true, decide_eq_true_eq, List.any_eq_true] at h2
      obtain ⟨h3, k, _, h4, h5⟩ := h2
      exact ⟨h3, k, by simpa using h4, h5⟩

/-- What one operation does. -/
def StepX (P : Program) (n : Nat) (ops : Array Oper) (pl : Plan) (i : Nat) (o : Oper) (f : Fr) (s : St) : Prop :=
  ∀ (Q : Post), (∀ v s' M, Tch M s s' → (∀ b, M b → ∃ j, j ∈ pl.con i ∧ (pl.px j).own (f (pl.slot j)) b) →
      (pl.px i).p (match o.dst with | some _ => v | none => f (pl.slot i)) s' →
      (∀ b, (pl.px i).own (match o.dst with | some _ => v | none => f (pl.slot i)) b → (∃ j, j ∈ pl.con i ∧ (pl.px j).own (f (pl.slot j)) b) ∨ s.w.heap.size ≤ b) →
      Q .normal (updO f o.dst v) s'.w) → L P n ops Q [o] f s.w

def StepsX (P : Program) (n : Nat) (ops : Array Oper) (pl : Plan) (f : Fr) (s : St) : List Oper → Nat → Prop
  | [], _ => True
  | o :: r, i => (∀ f' s', Tch (pl.ent ops f) s s' →
      (∀ j, avail ops pl.cons i j = true → j < pl.slots.length → (pl.px j).p (f' (pl.slot j)) s') → (∀ t, slotFree ops i t = true → f' t = f t) → (∀ j q, avail ops pl.cons i j = true → avail ops pl.cons i q = true → j < pl.slots.length → q < pl.slots.length → j ≠ q → ∀ b, (pl.px j).own (f' (pl.slot j)) b → ¬ (pl.px q).own (f' (pl.slot q)) b) → StepX P n ops pl i o f' s') ∧ StepsX P n ops pl f s r (i + 1)

theorem StepsX_nil {pl : Plan} {s : St} {i : Nat} : StepsX P n ops pl f s [] i := trivial
theorem StepsX_cons {pl : Plan} {s : St} {i : Nat} {o : Oper} {r : List Oper}
    (h : ∀ f' s', Tch (pl.ent ops f) s s' →
      (∀ j, avail ops pl.cons i j = true → j < pl.slots.length → (pl.px j).p (f' (pl.slot j)) s') → (∀ t, slotFree ops i t = true → f' t = f t) → (∀ j q, avail ops pl.cons i j = true → avail ops pl.cons i q = true → j < pl.slots.length → q < pl.slots.length → j ≠ q → ∀ b, (pl.px j).own (f' (pl.slot j)) b → ¬ (pl.px q).own (f' (pl.slot q)) b) → StepX P n ops pl i o f' s')
    (k : StepsX P n ops pl f s r (i + 1)) : StepsX P n ops pl f s (o :: r) i := ⟨h, k⟩


theorem StepsX.get {pl : Plan} {s : St} : ∀ {l : List Oper} {k : Nat}, StepsX P n ops pl f s l k → ∀ (i : Nat) (o : Oper), l[i]? = some o → ∀ f' s', Tch (pl.ent ops f) s s' →
      (∀ j, avail ops pl.cons (k + i) j = true → j < pl.slots.length → (pl.px j).p (f' (pl.slot j)) s') → (∀ t, slotFree ops (k + i) t = true → f' t = f t) → (∀ j q, avail ops pl.cons (k + i) j = true → avail ops pl.cons (k + i) q = true → j < pl.slots.length → q < pl.slots.length → j ≠ q → ∀ b, (pl.px j).own (f' (pl.slot j)) b → ¬ (pl.px q).own (f' (pl.slot q)) b) → StepX P n ops pl (k + i) o f' s'
  | [], _, _, i, o, h => by simp at h
  | a :: l, k, ⟨h1, h2⟩, 0, o, h => by simp at h; subst h; exact h1
  | a :: l, k, ⟨h1, h2⟩, i + 1, o, h => by
    have := StepsX.get h2 i o (by simpa using h)
    rw [show k + 1 + i = k + (i + 1) by omega] at this
    exact this

/-- Is what j gave still there? -/
def alive (ops : Array Oper) (pl : Plan) (listed : Array Bool) (j : Nat) : Prop :=
  j < pl.slots.length ∧ (ops.size ≤ j ∨ listed.getD j false = true) ∧ ∀ i, listed.getD i false = true → j ∉ pl.con i

theorem W_drawX {id : Nat} {s : St} {l : List Oper} (hm : P.follows .mixedOrders = true) (pl : Plan) (hok : planOk n l.toArray pl.slots pl.cons = true)
    (h0 : ∀ j, l.toArray.size ≤ j → j < pl.slots.length → (pl.px j).p (f (pl.slot j)) s)
    (hd0 : ∀ j k, l.toArray.size ≤ j → j < pl.slots.length → l.toArray.size ≤ k → k < pl.slots.length → j ≠ k → ∀ b, (pl.px j).own (f (pl.slot j)) b → ¬ (pl.px k).own (f (pl.slot k)) b)
    (steps : StepsX P n l.toArray pl f s l 0)
    (fin : ∀ f' s', Tch (pl.ent l.toArray f) s s' → (∀ j, j < pl.slots.length → (∀ i, i < l.toArray.size → j ∉ pl.con i) → (pl.px j).p (f' (pl.slot j)) s') →
      (∀ j k, j < pl.slots.length → k < pl.slots.length → (∀ i, i < l.toArray.size → j ∉ pl.con i) → (∀ i, i < l.toArray.size → k ∉ pl.con i) → j ≠ k → ∀ b, (pl.px j).own (f' (pl.slot j)) b → ¬ (pl.px k).own (f' (pl.slot k)) b) →
      (∀ j b, j < pl.slots.length → (∀ i, i < l.toArray.size → j ∉ pl.con i) → (pl.px j).own (f' (pl.slot j)) b → pl.ent l.toArray f b ∨ s.w.heap.size ≤ b) →
      (∀ t, unwritten l.toArray t = true → f' t = f t) → Q .normal f' s'.w) :
    W P n (.region id l.toArray true) Q f s.w := by
  have sp := planOk_spec hok
  generalize hops : l.toArray = ops at *
  intro a ha
  refine wp_region_any hm ?_
  have main : ∀ (fuel : Nat) (listed : Array Bool) (a : Act) (f' : Fr) (s' : St), listed.size = ops.size → listed.toList.countP (fun b => !b) = fuel → Fits n f' a → Tch (pl.ent ops f) s s' →
      (∀ j, alive ops pl listed j → (pl.px j).p (f' (pl.slot j)) s') →
      (∀ j k, alive ops pl listed j → alive ops pl listed k → j ≠ k → ∀ b, (pl.px j).own (f' (pl.slot j)) b → ¬ (pl.px k).own (f' (pl.slot k)) b) →
      (∀ j b, alive ops pl listed j → (pl.px j).own (f' (pl.slot j)) b → pl.ent ops f b ∨ s.w.heap.size ≤ b) →
      (∀ (j : Nat) (o' : Oper), listed.getD j false = true → ops[j]? = some o' → ∀ e, e ∈ o'.after.toList → Region.binds .any e = true → listed.getD e.on false = true) →
      (∀ t, (∀ (j : Nat) (o' : Oper), listed.getD j false = true → ops[j]? = some o' → o'.dst ≠ some t) → f' t = f t) →
      wpAny P .any ops (lift n Q) fuel listed a s'.w := by
    intro fuel
    induction fuel with
    | zero =>
      intro listed a f' s' hsz hcnt hfit hE hΦ hdj hown hcl hfr
      have hall : ∀ j, j < ops.size → listed.getD j false = true := by
        intro j hj
        have hj' : j < listed.size := by omega
        have := List.countP_eq_zero.1 hcnt (listed[j]) (by simp)
        rw [Array.getD_eq_getD_getElem?, Array.getElem?_eq_getElem hj']
        simpa using this
      have hal : ∀ j, j < pl.slots.length → (∀ i, i < ops.size → j ∉ pl.con i) → alive ops pl listed j := by
        intro j hj hc
        refine ⟨hj, ?_, fun i hi => hc i ?_⟩
        · rcases Nat.lt_or_ge j ops.size with h | h
          · exact .inr (hall j h)
          · exact .inl h
        · rcases Nat.lt_or_ge i listed.size with h | h
          · omega
          · rw [Array.getD_eq_getD_getElem?, Array.getElem?_eq_none h] at hi; simp at hi
      refine ⟨?_, f', hfit, fin f' s' hE (fun j hj hc => hΦ j (hal j hj hc)) (fun j k hj hk hcj hck hne => hdj j k (hal j hj hcj) (hal k hk hck) hne) (fun j b hj hc hb => hown j b (hal j hj hc) hb) (fun t ht => hfr t (fun j o' _ ho' hd => ?_))⟩
      · cases hr : Region.ready .any ops listed with
        | nil => rfl
        | cons i r =>
          have hi : i ∈ Region.ready .any ops listed := by rw [hr]; simp
          obtain ⟨h1, o, ho, _⟩ := mem_ready.1 hi
          have := hall i (Array.getElem?_eq_some_iff.1 ho).1
          have hi' : i < listed.size := by rw [hsz]; exact (Array.getElem?_eq_some_iff.1 ho).1
          rw [Array.getD_eq_getD_getElem?, Array.getElem?_eq_getElem hi'] at h1 this
          simp at h1 this
          rw [h1] at this; cases this
      · unfold unwritten at ht
        rw [List.all_eq_true] at ht
        have := ht o' (by obtain ⟨h1, h2⟩ := Array.getElem?_eq_some_iff.1 ho'; rw [← h2]; simp)
        rw [hd] at this; simp at this
    | succ fuel ih =>
      intro listed a f' s' hsz hcnt hfit hE hΦ hdj hown hcl hfr
      refine ⟨fun hr => ?_, fun i hi => ?_⟩
      · exfalso
        have hex : ∃ j, j < listed.size ∧ listed.getD j true = false := by
          have hpos : 0 < listed.toList.countP (fun b => !b) := by omega
          obtain ⟨x, hx, hb⟩ := List.countP_pos_iff.1 hpos
          obtain ⟨j, hj, e⟩ := List.getElem_of_mem hx
          refine ⟨j, by simpa using hj, ?_⟩
          rw [Array.getD_eq_getD_getElem?, Array.getElem?_eq_getElem (by simpa using hj)]
          simp at hb e ⊢
          rw [e, hb]
        obtain ⟨j, ⟨hj, hf⟩, hmin⟩ := least_of hex
        have hjo : j < ops.size := by omega
        have : j ∈ Region.ready .any ops listed := mem_ready.2 ⟨hf, ops[j], Array.getElem?_eq_getElem hjo, fun e he hb => by
          have hlt := sp.edge j _ (Array.getElem?_eq_getElem hjo) e (by simpa using he) hb
          have hl' : e.on < listed.size := by omega
          cases hv : listed.getD e.on false with
          | true => rfl
          | false =>
            have : listed.getD e.on true = false := by
              rw [Array.getD_eq_getD_getElem?, Array.getElem?_eq_getElem hl'] at hv ⊢
              simpa using hv
            have := hmin e.on ⟨hl', this⟩
            omega⟩
        rw [hr] at this; simp at this
      · obtain ⟨hun, o, ho, haft⟩ := mem_ready.1 hi
        have hil : i < listed.size := by rw [hsz]; exact (Array.getElem?_eq_some_iff.1 ho).1
        have hio : i < ops.size := by omega
        have hun' : listed.getD i false = false := by
          rw [Array.getD_eq_getD_getElem?, Array.getElem?_eq_getElem hil] at hun ⊢
          simpa using hun
        -- an operation that waits for i is not listed
        have hwait : ∀ (k : Nat) (o' : Oper), ops[k]? = some o' → aheadOf o' i = true → listed.getD k false = false := by
          intro k o' ho' hah
          cases hk : listed.getD k false with
          | false => rfl
          | true =>
            unfold aheadOf at hah
            rw [Array.any_eq_true'] at hah
            obtain ⟨e, he, hb⟩ := hah
            simp only [Bool.and_eq_true, beq_iff_eq] at hb
            have := hcl k o' hk ho' e (by simpa using he) hb.1
            rw [hb.2, hun'] at this; cases this
        have hav : ∀ j, avail ops pl.cons i j = true → j < pl.slots.length → alive ops pl listed j := by
          intro j hj hjl
          unfold avail at hj
          simp only [Bool.and_eq_true, Bool.or_eq_true, decide_eq_true_eq, List.all_eq_true, ho] at hj
          obtain ⟨h1, h2⟩ := hj
          refine ⟨hjl, ?_, fun k hk hmem => ?_⟩
          · rcases h1 with h1 | h1
            · exact .inl h1
            · right
              unfold aheadOf at h1
              rw [Array.any_eq_true'] at h1
              obtain ⟨e, he, hb⟩ := h1
              simp only [Bool.and_eq_true, beq_iff_eq] at hb
              exact hb.2 ▸ haft e he hb.1
          · have hkl : k < ops.size := by
              rcases Nat.lt_or_ge k listed.size with h | h
              · omega
              · rw [Array.getD_eq_getD_getElem?, Array.getElem?_eq_none h] at hk; simp at hk
            have := h2 k (by simpa using hkl)
            rcases this with (h3 | h3) | h3
            · have hmem' : (pl.cons.getD k []).contains j = true := by
                rw [List.contains_iff_mem]; exact hmem
              rw [hmem'] at h3; simp at h3
            · subst h3; rw [hun'] at hk; cases hk
            · cases hok' : ops[k]? with
              | none => rw [hok'] at h3; simp at h3
              | some o' =>
                rw [hok'] at h3
                rw [hwait k o' hok' h3] at hk; cases hk
        refine wpOp_of_L (f := f') ho hfit (fun Q' hQ' => ?_)
        have hst := StepsX.get steps i o (by rw [← hops] at ho; simpa using ho) f' s' hE (by
          intro j hj hjl
          rw [Nat.zero_add] at hj
          exact hΦ j (hav j hj hjl)) (by
          intro t ht
          rw [Nat.zero_add] at ht
          refine hfr t (fun j o' hj ho' hdt => ?_)
          unfold slotFree at ht
          rw [List.all_eq_true] at ht
          have := ht o' (by obtain ⟨h1, h2⟩ := Array.getElem?_eq_some_iff.1 ho'; rw [← h2]; simp)
          rw [hdt] at this
          simp only [bne_self_eq_false, Bool.false_or] at this
          rw [hwait j o' ho' this] at hj; cases hj) (by
          intro j k hj hk hjl hkl hne
          rw [Nat.zero_add] at hj hk
          exact hdj j k (hav j hj hjl) (hav k hk hkl) hne)
        rw [Nat.zero_add] at hst
        refine hst Q' ?_
        intro v s'' M hT hM hv hvo
        refine hQ' _ _ (fun a' ha' => ?_)
        have hgd : ∀ j, (listed.setIfInBounds i true).getD j false = true → j = i ∨ listed.getD j false = true := by
          intro j hj
          by_cases e : i = j
          · exact .inl e.symm
          · right; rw [getD_set_ne false e] at hj; exact hj
        have hset : ∀ j, listed.getD j false = true → (listed.setIfInBounds i true).getD j false = true := fun j hj => getD_set_true hj
        have hseti : (listed.setIfInBounds i true).getD i false = true := by
          rw [Array.getD_eq_getD_getElem?, Array.getElem?_setIfInBounds]; simp [hil]
        -- who is alive behind it
        have hlive : ∀ j, alive ops pl (listed.setIfInBounds i true) j → j ≠ i → alive ops pl listed j ∧ j ∉ pl.con i := by
          intro j ⟨h1, h2, h3⟩ hne
          refine ⟨⟨h1, h2.imp (fun h => h) (fun h => (hgd j h).resolve_left hne), fun k hk => h3 k (hset k hk)⟩, h3 i hseti⟩
        -- slots of what is alive are not written
        have hslot : ∀ j, alive ops pl listed j → j ≠ i → updO f' o.dst v (pl.slot j) = f' (pl.slot j) := by
          intro j hj hne
          cases hd : o.dst with
          | none => rfl
          | some d =>
            simp only [updO, upd]
            rw [if_neg]
            intro e
            rcases sp.uniq i o d j ho hd hj.1 hne e with ⟨o', ho', _, hah⟩ | ⟨_, k, hk, hah⟩
            · have h1 := hwait j o' ho' hah
              rcases hj.2.1 with h2 | h2
              · have := (Array.getElem?_eq_some_iff.1 ho').1; omega
              · rw [h1] at h2; cases h2
            · unfold aheadOf at hah
              rw [Array.any_eq_true'] at hah
              obtain ⟨e, he, hb⟩ := hah
              simp only [Bool.and_eq_true, beq_iff_eq] at hb
              exact hj.2.2 k (hb.2 ▸ haft e he hb.1) hk
        have hval : updO f' o.dst v (pl.slot i) = (match o.dst with | some _ => v | none => f' (pl.slot i)) := by
          cases hd : o.dst with
          | none => rfl
          | some d =>
            have := (sp.dst i o d ho hd).2
            show updO f' (some d) v (pl.slots.getD i 0) = v
            rw [this]; simp [updO, upd]
        have hconAlive : ∀ j, j ∈ pl.con i → j < pl.slots.length → alive ops pl listed j := fun j hj hl => hav j (sp.con i o ho j hj).1 hl
        have hcl2 : ∀ j, j ∈ pl.con i → ¬ j < pl.slots.length → False := fun j hj hl => hl (sp.con i o ho j hj).2
        have hMent : ∀ b, M b → pl.ent ops f b ∨ s.w.heap.size ≤ b := by
          intro b hb
          obtain ⟨j, hj, ho2⟩ := hM b hb
          by_cases hl : j < pl.slots.length
          · exact hown j b (hconAlive j hj hl) ho2
          · exact (hcl2 j hj hl).elim
        refine ih _ a' _ s'' (by simpa using hsz) ?_ ha' (hE.trans hT hMent) ?_ ?_ ?_ ?_ ?_
        · have := countFalse_set hun; omega
        · intro j hj
          by_cases hne : j = i
          · subst hne; rw [hval]; exact hv
          · obtain ⟨h1, h2⟩ := hlive j hj hne
            rw [hslot j h1 hne]
            refine (pl.px j).m (hΦ j h1) hT (fun b hb hMb => ?_)
            obtain ⟨k, hk, ho2⟩ := hM b hMb
            have hkj : j ≠ k := fun e => h2 (e ▸ hk)
            by_cases hl : k < pl.slots.length
            · exact hdj j k h1 (hconAlive k hk hl) hkj b hb ho2
            · exact (hcl2 k hk hl).elim
        · intro j k hj hk hne b hb
          by_cases hji : j = i
          · subst hji
            obtain ⟨h1, h2⟩ := hlive k hk (fun e => hne e.symm)
            rw [hval] at hb
            rw [hslot k h1 (fun e => hne e.symm)]
            rcases hvo b hb with ⟨q, hq, ho2⟩ | hge
            · by_cases hl : q < pl.slots.length
              · exact hdj q k (hconAlive q hq hl) h1 (fun e => h2 (e ▸ hq)) b ho2
              · exact (hcl2 q hq hl).elim
            · intro hkb
              have := (pl.px k).lt (hΦ k h1) hkb
              omega
          · obtain ⟨h1, h2⟩ := hlive j hj hji
            rw [hslot j h1 hji] at hb
            by_cases hki : k = i
            · subst hki
              rw [hval]
              intro hkb
              rcases hvo b hkb with ⟨q, hq, ho2⟩ | hge
              · by_cases hl : q < pl.slots.length
                · exact hdj q j (hconAlive q hq hl) h1 (fun e => h2 (e ▸ hq)) b ho2 hb
                · exact (hcl2 q hq hl).elim
              · have := (pl.px j).lt (hΦ j h1) hb
                omega
            · obtain ⟨h3, h4⟩ := hlive k hk hki
              rw [hslot k h3 hki]
              exact hdj j k h1 h3 hne b hb
        · intro j b hj hb
          by_cases hji : j = i
          · subst hji
            rw [hval] at hb
            rcases hvo b hb with ⟨q, hq, ho2⟩ | hge
            · by_cases hl : q < pl.slots.length
              · exact hown q b (hconAlive q hq hl) ho2
              · exact (hcl2 q hq hl).elim
            · right; have := hE.size; omega
          · obtain ⟨h1, h2⟩ := hlive j hj hji
            rw [hslot j h1 hji] at hb
            exact hown j b h1 hb
        · intro j o' hj ho' e he hb
          rcases hgd j hj with rfl | hj
          · rw [ho] at ho'; cases ho'
            exact hset _ (haft e (by simpa using he) hb)
          · exact hset _ (hcl j o' hj ho' e he hb)
        · intro t ht
          cases hd : o.dst with
          | none => exact hfr t (fun j o' hj => ht j o' (hset j hj))
          | some d =>
            have hne : t ≠ d := fun e => ht i o hseti ho (by rw [hd, e])
            show updO f' (some d) v t = f t
            simp only [updO, upd, if_neg hne]
            exact hfr t (fun j o' hj => ht j o' (hset j hj))
  have hnone : ∀ j, (Array.replicate ops.size false).getD j false = true → False := by
    intro j hj
    rw [Array.getD_eq_getD_getElem?, Array.getElem?_replicate] at hj
    split at hj <;> simp at hj
  have hal0 : ∀ j, alive ops pl (Array.replicate ops.size false) j → j < pl.slots.length ∧ ops.size ≤ j := fun j ⟨h1, h2, _⟩ => ⟨h1, h2.resolve_right (fun h => hnone j h)⟩
  exact main ops.size (Array.replicate ops.size false) a f s.drew (by simp) (by simp [List.countP_replicate]) ha ((Ext.drew s).to)
    (fun j hj => by
      obtain ⟨h1, h2⟩ := hal0 j hj
      exact (pl.px j).m (h0 j h2 h1) (Ext.drew s) (fun _ _ h => h))
    (fun j k hj hk hne => hd0 j k (hal0 j hj).2 (hal0 j hj).1 (hal0 k hk).2 (hal0 k hk).1 hne)
    (fun j b hj hb => .inl ⟨j, (hal0 j hj).2, (hal0 j hj).1, hb⟩)
    (fun j o' hj => (hnone j hj).elim) (fun _ _ => rfl)
end
end Go.Arm
namespace Go.Arm
open Go Go.RowKit

/-- A block of the call's own that holds a list, element by element. -/
def Arr {α : Type} [Rep α] (s : St) (b : Nat) (E : TypeId) (len : Nat) (xs : List α) : Prop :=
  xs.length = len ∧ ∃ cells, Mut s b E cells ∧ cells.length = xs.length * Rep.size α ∧ (∀ u, u ∈ cells → u.oneCell' = true) ∧
    ∀ i (h : i < xs.length), Rep.rel s ((cells.drop (i * Rep.size α)).take (Rep.size α)) xs[i]

section
variable {α β : Type} [Rep α] [Rep β] {s s' : St} {b : Nat} {E : TypeId} {len : Nat} {xs : List α} {M : Nat → Prop}
theorem Arr.tch (h : Arr s b E len xs) (t : Tch M s s') (hb : ¬ M b) : Arr s' b E len xs := by
  obtain ⟨h0, cells, h1, h2, h3, h4⟩ := h
  exact ⟨h0, cells, h1.tch t hb, h2, h3, fun i hi => Rep.mono t.le (h4 i hi)⟩
theorem Arr.ext (h : Arr s b E len xs) (t : Ext s s') : Arr s' b E len xs := h.tch t (fun x => x)
theorem Arr.lt (h : Arr s b E len xs) : b < s.w.heap.size := by obtain ⟨_, cells, h1, _⟩ := h; exact h1.lt
theorem Arr.g (h : Arr s b E len xs) : s.g b = 0 := by obtain ⟨_, cells, h1, _⟩ := h; exact h1.g
theorem Var.g {x : α} (h : Var s b E x) : s.g b = 0 := by obtain ⟨cells, h1, _⟩ := h; exact h1.g

/-- It is claimed: a slice that reads as the list. -/
theorem Arr.freeze (h : Arr s b E len xs) : ∃ s', s'.w = s.w ∧ Tch (fun k => k = b) s s' ∧ V s' (.slice (some ⟨b, 0, none⟩) len len) xs := by
  obtain ⟨h0, cells, h1, h2, h3, h4⟩ := h
  obtain ⟨s', e, t, hg, ho⟩ := h1.claim cells.length
  refine ⟨s', e, t, Vslice h0.symm (by omega) (fun _ => ⟨b, 0, rfl, RowAt.of_cells (cells := cells) ?_ h2 (fun i hi => Rep.mono t.le (h4 i hi))⟩)⟩
  intro j hj
  rw [e, hg, Nat.zero_add, h1.cell]
  exact ⟨by simp [hj], hj⟩
theorem Var.freeze {x : α} (h : Var s b E x) : ∃ s', s'.w = s.w ∧ Tch (fun k => k = b) s s' ∧ Ptr s' (.pointer (some ⟨b, 0, none⟩)) x := by
  obtain ⟨s', h1, h2, h3, _⟩ := h.ptr; exact ⟨s', h1, h2, h3⟩
end

section
variable {P : Program} {n : Nat} {Q : Post} {f : Fr} {w : World} {ops : Array Oper} {rest : List Oper} {s : St}
variable {d : Nat} {ty : TypeId} {pos : String} {aft : Array Edge} {α β : Type} [Rep α] [Rep β]

theorem madeCells_get {z : Array Value} {k i : Nat} {size : Nat} (hz : z.size = size) (hp : 0 < size) (hi : i < k) : ((madeCells z (k * size)).toList.drop (i * size)).take size = z.toList := by
  apply List.ext_getElem
  · have : (i + 1) * size ≤ k * size := Nat.mul_le_mul_right _ hi
    rw [Nat.succ_mul] at this
    simp [size_madeCells, hz]; omega
  · intro j h1 h2
    simp only [Array.length_toList, hz] at h2
    simp only [List.getElem_take, List.getElem_drop, madeCells, Array.getElem_toList, Array.getElem_map, Array.getElem_range]
    have : (i * size + j) % z.size = j := by rw [hz, Nat.mul_add_mod_self_right]; exact Nat.mod_eq_of_lt h2
    rw [this]
    exact getElem!_pos z j (by omega)

theorem L_makeArr {T E : TypeId} {x : Operand} {k : Int} {bytes : Nat} {z : Value} {x0 : α} (hT : P.underlying T = some (.slice E)) (hZ : TyZ P E α bytes z) (hx : ev f x = .int .i64 k) (h0 : 0 ≤ k)
    (hb : (bytes : Int) * k ≤ 281474976710656) (h63 : k ≤ 9223372036854775807) (hz0 : ∀ s, Rep.rel s z.cells.toList x0) (hd : d < n)
    (h : ∀ s' b, Ext s s' → s.w.heap.size ≤ b → Arr s' b E k.toNat (List.replicate k.toNat x0) → L P n ops Q rest (upd f d (.slice (some ⟨b, 0, none⟩) k.toNat k.toNat)) s'.w) :
    L P n ops Q (⟨some d, .makeSlice T x x, ty, pos, aft, none⟩ :: rest) f s.w := by
  obtain ⟨i, hi, hz, hsz, hby⟩ := info_parts hZ.info
  have hr := run_make (P := P) s.w T E i z hT hi hz .i64 .i64 k k h0 (Int.le_refl _) (by rw [hby]; exact hb) h63
  refine L_val (v := .slice (some ⟨s.w.heap.size, 0, none⟩) k.toNat k.toNat) rfl (fun k e => by cases e; exact hd) (w' := s.w.alloc (.cells (madeCells z.cells (k.toNat * i.size)) E)) (by simp [execOp, hx, hr]) ?_
  refine h (s.new (.cells (madeCells z.cells (k.toNat * i.size)) E) 0) s.w.heap.size (Ext.new _ _ _) (Nat.le_refl _) ⟨by simp, (madeCells z.cells (k.toNat * i.size)).toList, ⟨?_, if_pos rfl⟩, ?_, ?_, ?_⟩
  · simpa [St.new] using heap_alloc_new s.w (.cells (madeCells z.cells (k.toNat * i.size)) E)
  · simp [size_madeCells, hsz]
  · intro u hu
    simp only [madeCells, Array.toList_map, List.mem_map] at hu
    obtain ⟨j, hj, rfl⟩ := hu
    have hone := Rep.one (hz0 s)
    have hlt : j % z.cells.size < z.cells.size := Nat.mod_lt _ (by rw [hZ.zs]; exact hZ.pos)
    rw [getElem!_pos z.cells _ hlt]
    exact hone _ (by simp)
  · intro j hj
    simp only [List.length_replicate] at hj
    rw [hsz, madeCells_get hZ.zs hZ.pos hj]
    simpa using hz0 _

theorem L_indexA {T E : TypeId} {x i : Operand} {b len cap sz : Nat} {k : IntKind} {j : Int} (hT : P.underlying T = some (.slice E)) (hE : (P.info? E).map (·.size) = some sz)
    (hx : ev f x = .slice (some ⟨b, 0, none⟩) len cap) (hi : ev f i = .int k j) (h0 : 0 ≤ j) (h1 : j < len) (hd : d < n)
    (h : L P n ops Q rest (upd f d (.pointer (some ⟨b, j.toNat * sz, none⟩))) w) : L P n ops Q (⟨some d, .indexAddr T x i, ty, pos, aft, none⟩ :: rest) f w := by
  refine L_val (v := .pointer (some ⟨b, j.toNat * sz, none⟩)) rfl (fun k e => by cases e; exact hd) ?_ h
  simp [execOp, Instr.indexAt, hx, hi, asIntOf, run_underlying hT, h0, h1, run_sizeOf hE, Addr.add_eq]

theorem Arr.part {b len : Nat} {E : TypeId} {xs : List α} {j : Nat} {y : α} (h : Arr s b E len xs) (hj : xs[j]? = some y) : ∃ cells ks : List Value, Mut s b E cells ∧ Rep.rel s ks y ∧ j * Rep.size α + ks.length ≤ cells.length ∧ (∀ i (h : i < ks.length), cells[j * Rep.size α + i]? = some ks[i]) := by
  obtain ⟨h0, cells, h1, h2, h3, h4⟩ := h
  obtain ⟨hlt, he⟩ := List.getElem?_eq_some_iff.1 hj
  have hr := h4 j hlt
  rw [he] at hr
  have hl := Rep.len hr
  have hle : (j + 1) * Rep.size α ≤ xs.length * Rep.size α := Nat.mul_le_mul_right _ hlt
  rw [Nat.succ_mul] at hle
  refine ⟨cells, _, h1, hr, by omega, fun i hi => ?_⟩
  rw [List.getElem_take, List.getElem_drop, List.getElem?_eq_getElem]

theorem L_loadA {T E : TypeId} {x : Operand} {b len : Nat} {xs : List α} {j : Int} {y : α} (hT : Ty P T α) (hx : ev f x = .pointer (some ⟨b, j.toNat * Rep.size α, none⟩)) (hM : Arr s b E len xs) (hy : idx xs j = some y) (hd : d < n)
    (h : ∀ v, V s v y → L P n ops Q rest (upd f d v) s.w) : L P n ops Q (⟨some d, .load T x, ty, pos, aft, none⟩ :: rest) f s.w := by
  obtain ⟨cells, ks, hm, hrel, hle, hks⟩ := hM.part (idx_some hy).2.2
  obtain ⟨s', e, t, hg, ho⟩ := hm.claim cells.length
  have hat : AtRO s' b (j.toNat * Rep.size α) ks := by
    intro i hi
    refine ⟨by rw [e, hm.cell]; exact hks i hi, by rw [hg]; omega⟩
  have := run_load_ro (P := P) hT (Rep.mono t.le hrel) hat
  rw [e] at this
  refine L_val (v := pack (Rep.agg α) ks) rfl (fun k e => by cases e; exact hd) ?_ (h _ ⟨ks, hrel, rfl⟩)
  simp [execOp, Instr.loadAt, Instr.sureAddr, hx, this]

theorem drop_take_splice {cells ks : List Value} {sz j i n : Nat} (hk : ks.length = sz) (hc : cells.length = n * sz) (hj : j < n) (hi : i < n) :
    ((splice cells (j * sz) ks).drop (i * sz)).take sz = if i = j then ks else (cells.drop (i * sz)).take sz := by
  have hj1 : (j + 1) * sz ≤ n * sz := Nat.mul_le_mul_right _ hj
  have hi1 : (i + 1) * sz ≤ n * sz := Nat.mul_le_mul_right _ hi
  rw [Nat.succ_mul] at hj1 hi1
  apply List.ext_getElem?
  intro q
  simp only [List.getElem?_take, List.getElem?_drop, splice]
  by_cases hq : q < sz
  · rw [if_pos hq]
    by_cases hij : i = j
    · subst hij
      rw [if_pos rfl, List.append_assoc, List.getElem?_append_right (by simp; omega), List.length_take, Nat.min_eq_left (by omega),
        show i * sz + q - i * sz = q by omega, List.getElem?_append_left (by omega)]
    · rw [if_neg hij]
      simp only [List.getElem?_take, hq, if_true, List.getElem?_drop]
      rcases Nat.lt_or_ge i j with h | h
      · have : (i + 1) * sz ≤ j * sz := Nat.mul_le_mul_right _ h
        rw [Nat.succ_mul] at this
        rw [List.append_assoc, List.getElem?_append_left (by simp; omega), List.getElem?_take, if_pos (by omega)]
      · have : (j + 1) * sz ≤ i * sz := Nat.mul_le_mul_right _ (by omega)
        rw [Nat.succ_mul] at this
        rw [List.getElem?_append_right (by simp; omega), List.getElem?_drop]
        congr 1
        simp only [List.length_append, List.length_take]
        rw [Nat.min_eq_left (by omega)]; omega
  · rw [if_neg hq]
    split
    · exact (List.getElem?_eq_none (by omega)).symm
    · rw [List.getElem?_take, if_neg hq]

theorem Arr.store {b len : Nat} {E : TypeId} {xs : List α} {j : Nat} {y : α} {ks : List Value} (h : Arr s b E len xs) (hj : j < xs.length) (hrel : Rep.rel s ks y) :
    ∃ s', (storeCells ⟨b, j * Rep.size α, none⟩ ks 0).run P s.w = .ok () s'.w ∧ Tch (fun k => k = b) s s' ∧ Arr s' b E len (xs.set j y) := by
  obtain ⟨h0, cells, h1, h2, h3, h4⟩ := h
  have hl := Rep.len hrel
  have hle : (j + 1) * Rep.size α ≤ xs.length * Rep.size α := Nat.mul_le_mul_right _ hj
  rw [Nat.succ_mul] at hle
  obtain ⟨s', hr, ht, hm'⟩ := h1.store (P := P) (ks := ks) (j * Rep.size α) (by omega) (Rep.one hrel)
  have hsl : (splice cells (j * Rep.size α) ks).length = cells.length := by simp [splice]; omega
  refine ⟨s', hr, ht, by simpa using h0, _, hm', by rw [hsl, h2]; simp, ?_, ?_⟩
  · intro u hu
    simp only [splice, List.mem_append] at hu
    rcases hu with (hu | hu) | hu
    · exact h3 u (List.mem_of_mem_take hu)
    · exact Rep.one hrel u hu
    · exact h3 u (List.mem_of_mem_drop hu)
  · intro i hi
    simp only [List.length_set] at hi
    rw [drop_take_splice hl h2 hj hi, List.getElem_set]
    by_cases e : i = j
    · subst e; rw [if_pos rfl, if_pos rfl]; exact Rep.mono ht.le hrel
    · rw [if_neg e, if_neg (fun x => e x.symm)]; exact Rep.mono ht.le (h4 i hi)

theorem L_storeA {T E : TypeId} {x a : Operand} {v : Value} {b len : Nat} {xs : List α} {j : Int} {y o : α} (hT : Ty P T α) (ha : ev f a = .pointer (some ⟨b, j.toNat * Rep.size α, none⟩)) (hx : ev f x = v) (hV : V s v y) (hM : Arr s b E len xs) (hj : idx xs j = some o)
    (h : ∀ s', Tch (fun k => k = b) s s' → Arr s' b E len (xs.set j.toNat y) → L P n ops Q rest f s'.w) :
    L P n ops Q (⟨none, .store T a x, ty, pos, aft, none⟩ :: rest) f s.w := by
  obtain ⟨ks, hrel, hcs, hlen, hpack⟩ := rel_cells hV
  obtain ⟨s', hr, ht, hm⟩ := hM.store (P := P) (List.getElem?_eq_some_iff.1 (idx_some hj).2.2).1 hrel
  refine L_skip rfl rfl (w' := s'.w) ?_ (h s' ht hm)
  have hsz : v.cells.size = Rep.size α := by rw [← hlen, ← hcs]; simp
  simp only [execOp, Instr.storeAt, Instr.sureAddr, ha, hx, storeVar, Sem.run_bind, Sem.run_pure, Result.andThen_ok, run_sizeOf hT.inf, hsz, hcs]
  simp [hr]

/-- A call while blocks of one's own are claimed: what it returns is plain, and they are let go behind it. -/
theorem L_calls_fz {k : FuncId} {args : Array Operand} {tys : Array TypeId} {vs : Array Value} {Φ : Value → St → Prop} {s1 : St} {M : Nat → Prop} (hk : Callee P k) (ha : args.map (ev f) = vs)
    (e1 : s1.w = s.w) (t1 : Tch M s s1) (hz : ∀ k, M k → s.g k = 0)
    (hc : Calls P k vs s1.w (Ret s1 Φ)) (hd : d < n) (h : ∀ v s2 s3, s3.w = s2.w → Ext s s3 → Φ v s2 → L P n ops Q rest (upd f d v) s3.w) :
    L P n ops Q (⟨some d, .call ⟨.value (.func k), args, tys⟩, ty, pos, aft, none⟩ :: rest) f s.w := by
  rw [← e1]
  refine L_calls hk ha hc hd (fun v s2 hE hΦ => ?_)
  obtain ⟨s3, e3, x3⟩ := thaw e1 t1 hz hE
  rw [← e3]
  exact h v s2 s3 e3 x3 hΦ
end
end Go.Arm
namespace Go.Arm
open Go Go.RowKit

section
variable {β : Type} [Rep β]
def mget {β : Type} (m : List (Int × β)) (k : Int) : Option β := (m.find? (fun e => e.1 == k)).map (·.2)
def mset {β : Type} (m : List (Int × β)) (k : Int) (v : β) : List (Int × β) :=
  if m.any (fun e => e.1 == k) then m.map (fun e => if e.1 == k then (k, v) else e) else m ++ [(k, v)]

/-- A map's entries read as a list of pairs. -/
structure MapRel (s : St) (es : Array MapEntry) (clock : Nat) (m : List (Int × β)) : Prop where
  len : es.size = m.length
  ent : ∀ i (h : i < m.length) (h' : i < es.size), es[i].key = .int .i64 m[i].1 ∧ V s es[i].val m[i].2
  born : ∀ i (h : i < es.size), es[i].born < clock
  dist : ∀ i j (h : i < es.size) (h' : j < es.size), es[i].born = es[j].born → i = j
  keys : (m.map (·.1)).Nodup

theorem MapRel.mono {s s' : St} {es : Array MapEntry} {clock : Nat} {m : List (Int × β)} (h : MapRel s es clock m) (l : Le s s') : MapRel s' es clock m :=
  ⟨h.len, fun i a b => ⟨(h.ent i a b).1, (h.ent i a b).2.mono l⟩, h.born, h.dist, h.keys⟩

omit [Rep β] in
theorem findNow_int {k : Int} : ∀ (es : List MapEntry) (m : List (Int × β)) (j : Nat), es.length = m.length → (∀ i (h : i < m.length) (h' : i < es.length), es[i].key = .int .i64 m[i].1) →
    (mget m k = none ∧ m.any (fun e => e.1 == k) = false ∧ Instr.findNow (.int .i64) (.int .i64 k) es j = some none) ∨
    ∃ i, ∃ (h : i < m.length) (h' : i < es.length), m[i].1 = k ∧ (∀ q (hq : q < i), (m[q]'(by omega)).1 ≠ k) ∧ mget m k = some m[i].2 ∧ m.any (fun e => e.1 == k) = true ∧ Instr.findNow (.int .i64) (.int .i64 k) es j = some (some (j + i, es[i].val))
  | [], [], j, _, _ => .inl ⟨rfl, rfl, rfl⟩
  | [], _ :: _, j, h, _ => by simp at h
  | _ :: _, [], j, h, _ => by simp at h
  | e :: es, x :: m, j, hl, hk => by
    have h0 := hk 0 (by simp) (by simp)
    simp only [List.getElem_cons_zero] at h0
    by_cases hx : x.1 = k
    · refine .inr ⟨0, by simp, by simp, hx, fun q hq => by omega, ?_, ?_, ?_⟩
      · simp [mget, hx]
      · simp [hx]
      · simp [Instr.findNow, Instr.sameNow, h0, hx]
    · have hs : Instr.sameNow (.int .i64) (.int .i64 k) e.key = some false := by
        rw [h0]; simp [Instr.sameNow]; exact fun h => hx h.symm
      rcases findNow_int es m (j + 1) (by simpa using hl) (fun i h h' => by have := hk (i + 1) (by simpa using h) (by simpa using h'); simpa using this) with ⟨h1, h2, h3⟩ | ⟨i, h, h', h1, h2, h3, h4, h5⟩
      · refine .inl ⟨?_, ?_, ?_⟩
        · simpa [mget, hx] using h1
        · simpa [hx] using h2
        · rw [Instr.findNow, hs]; exact h3
      · refine .inr ⟨i + 1, by simpa using h, by simpa using h', by simpa using h1, ?_, ?_, ?_, ?_⟩
        · intro q hq
          cases q with
          | zero => exact hx
          | succ q => simpa using h2 q (by omega)
        · have := h3
          simp only [mget] at this ⊢
          rw [List.find?_cons_of_neg (by simpa using hx)]
          simpa using this
        · simp only [List.any_cons, h4, Bool.or_true]
        · rw [Instr.findNow, hs, h5]
          simp; omega

/-- A map of the call's own. -/
def MapX (s : St) (b : Nat) (m : List (Int × β)) : Prop := ∃ es clock, s.w.heap[b]? = some (.map es clock) ∧ s.g b = 0 ∧ MapRel s es clock m
theorem MapX.lt {s : St} {b : Nat} {m : List (Int × β)} (h : MapX s b m) : b < s.w.heap.size := by obtain ⟨es, c, h, _⟩ := h; exact (Array.getElem?_eq_some_iff.1 h).1
theorem MapX.g {s : St} {b : Nat} {m : List (Int × β)} (h : MapX s b m) : s.g b = 0 := by obtain ⟨es, c, _, h, _⟩ := h; exact h
theorem MapX.tch {s s' : St} {b : Nat} {m : List (Int × β)} {M : Nat → Prop} (h : MapX s b m) (t : Tch M s s') (hb : ¬ M b) : MapX s' b m := by
  have hl := h.lt
  obtain ⟨es, c, h1, h2, h3⟩ := h
  exact ⟨es, c, (t.block b hl hb).trans h1, (t.g b hl hb).trans h2, h3.mono t.le⟩
theorem MapX.ext {s s' : St} {b : Nat} {m : List (Int × β)} (h : MapX s b m) (t : Ext s s') : MapX s' b m := h.tch t (fun x => x)

/-- A map that nobody writes any more. -/
structure GMap (β : Type) where
  l : List (Int × β)
def MapV (s : St) (v : Value) (m : List (Int × β)) : Prop :=
  (v = .map none ∧ m = []) ∨ ∃ b es clock, v = .map (some b) ∧ s.w.heap[b]? = some (.map es clock) ∧ 0 < s.g b ∧ MapRel s es clock m
theorem MapV.mono {s s' : St} {v : Value} {m : List (Int × β)} (h : MapV s v m) (l : Le s s') : MapV s' v m := by
  rcases h with h | ⟨b, es, c, h1, h2, h3, h4⟩
  · exact .inl h
  · exact .inr ⟨b, es, c, h1, (l.obj b h3 (fun c e z he => by rw [h2] at he; cases he)).trans h2, Nat.lt_of_lt_of_le h3 (l.g b), h4.mono l⟩
instance : Rep (GMap β) where
  size := 1
  agg := false
  rel s cs m := ∃ v, cs = [v] ∧ MapV s v m.l
  len := by rintro s cs r ⟨v, rfl, _⟩; rfl
  mono := by rintro s s' cs r l ⟨v, e, h⟩; exact ⟨v, e, h.mono l⟩
  one := by
    rintro s cs r ⟨v, rfl, h⟩ u hu
    simp at hu; subst hu
    rcases h with ⟨rfl, _⟩ | ⟨b, es, c, rfl, _⟩ <;> rfl
  single _ := rfl
theorem MapV.toV {s : St} {v : Value} {m : List (Int × β)} (h : MapV s v m) : V s v (⟨m⟩ : GMap β) := ⟨[v], ⟨v, rfl, h⟩, rfl⟩
theorem V.toMap {s : St} {v : Value} {m : GMap β} (h : V s v m) : MapV s v m.l := by obtain ⟨cs, ⟨u, rfl, h⟩, rfl⟩ := h; exact h

theorem MapX.freeze {s : St} {b : Nat} {m : List (Int × β)} (h : MapX s b m) : ∃ s', s'.w = s.w ∧ Tch (fun k => k = b) s s' ∧ MapV s' (.map (some b)) m := by
  have hl := h.lt
  obtain ⟨es, c, h1, h2, h3⟩ := h
  have ht : Tch (fun k => k = b) s (s.claim b 1 hl) := by
    refine ⟨rfl, rfl, rfl, Nat.le_refl _, fun _ _ _ => rfl, fun k _ nk => if_neg nk, fun k => ?_, fun _ _ _ => rfl, fun _ _ _ => rfl⟩
    show s.g k ≤ if k = b then 1 else s.g k
    split
    · subst_vars; rw [h2]; exact Nat.zero_le _
    · exact Nat.le_refl _
  exact ⟨s.claim b 1 hl, rfl, ht, .inr ⟨b, es, c, rfl, h1, by show 0 < if b = b then 1 else s.g b; rw [if_pos rfl]; exact Nat.one_pos, h3.mono ht.le⟩⟩
end

section
variable {P : Program} {n : Nat} {Q : Post} {f : Fr} {w : World} {ops : Array Oper} {rest : List Oper} {s : St}
variable {d : Nat} {ty : TypeId} {pos : String} {aft : Array Edge} {β : Type} [Rep β]

theorem L_makeMap {T : TypeId} (hd : d < n)
    (h : ∀ s' b, Ext s s' → s.w.heap.size ≤ b → MapX s' b ([] : List (Int × β)) → L P n ops Q rest (upd f d (.map (some b))) s'.w) :
    L P n ops Q (⟨some d, .makeMap T none, ty, pos, aft, none⟩ :: rest) f s.w := by
  refine L_val (v := .map (some s.w.heap.size)) rfl (fun k e => by cases e; exact hd) (w' := s.w.alloc (.map #[] 0)) (by simp [execOp, Instr.makeMap]) ?_
  refine h (s.new (.map #[] 0) 0) s.w.heap.size (Ext.new _ _ _) (Nat.le_refl _) ⟨#[], 0, heap_alloc_new s.w _, if_pos rfl, rfl, fun i h => by simp at h, fun i h => by simp at h, fun i j h => by simp at h, by simp⟩

/-- A map's block that is set. -/
def St.setMap (s : St) (b : Nat) (es : Array MapEntry) (c : Nat) : St := ⟨{ s.w with heap := s.w.heap.setIfInBounds b (.map es c) }, s.g, fun k hk => s.ok k (by simpa using hk)⟩
theorem Tch.setMap {b : Nat} {es : Array MapEntry} {c : Nat} {o : Obj} (ho : s.w.heap[b]? = some o) (hg : s.g b = 0) : Tch (fun k => k = b) s (s.setMap b es c) := by
  have hoth : ∀ k, k ≠ b → (s.w.heap.setIfInBounds b (.map es c))[k]? = s.w.heap[k]? := fun k hk => by rw [Array.getElem?_setIfInBounds, if_neg (fun e => hk e.symm)]
  refine ⟨rfl, rfl, rfl, by simp [St.setMap], fun k _ nk => hoth k nk, fun _ _ _ => rfl, fun _ => Nat.le_refl _, fun k o hlt => ?_, fun k hk _ => ?_⟩
  · by_cases e : k = b
    · subst e; rw [hg] at hlt; omega
    · simp only [World.cell?, St.setMap]; rw [hoth k e]
  · by_cases e : k = b
    · subst e; rw [hg] at hk; omega
    · exact hoth k e

theorem mset_keys {β : Type} (m : List (Int × β)) (k : Int) (v : β) (h : (m.map (·.1)).Nodup) : ((mset m k v).map (·.1)).Nodup := by
  unfold mset
  split
  · have : (m.map (fun e => if e.1 == k then (k, v) else e)).map (·.1) = m.map (·.1) := by
      rw [List.map_map]; apply List.map_congr_left
      intro e _
      simp only [Function.comp]
      split
      · rename_i h; simpa using (by simpa using h : e.1 = k).symm
      · rfl
    rw [this]; exact h
  · rename_i hn
    simp only [List.map_append, List.map_cons, List.map_nil]
    rw [List.nodup_append]
    refine ⟨h, by simp, ?_⟩
    intro a ha b hb e
    simp only [List.mem_singleton] at hb
    subst hb; subst e
    obtain ⟨x, hx, rfl⟩ := List.mem_map.1 ha
    apply hn
    rw [List.any_eq_true]
    exact ⟨x, hx, by simp⟩

theorem L_mapUpdate {T K E : TypeId} {x k y : Operand} {b : Nat} {m : List (Int × β)} {i : Int} {v : Value} {z : β} (hT : P.underlying T = some (.map K E)) (hK : P.underlying K = some (.int .i64))
    (hx : ev f x = .map (some b)) (hk : ev f k = .int .i64 i) (hy : ev f y = v) (hM : MapX s b m) (hV : V s v z)
    (h : ∀ s', Tch (fun k => k = b) s s' → MapX s' b (mset m i z) → L P n ops Q rest f s'.w) :
    L P n ops Q (⟨none, .mapUpdate T x k y, ty, pos, aft, none⟩ :: rest) f s.w := by
  obtain ⟨es, c, h1, h2, h3⟩ := hM
  have hck : (Instr.checkKey false 10000 K (.int .i64 i)).run P s.w = .ok () s.w := MapKept.run_checkKey hK (by simp [MapKept.IsKey]) false 9999
  have hkeys : ∀ q (h : q < m.length) (h' : q < es.toList.length), es.toList[q].key = .int .i64 m[q].1 := fun q h h' => by
    have := (h3.ent q h (by simpa using h')).1
    simpa using this
  rcases findNow_int (k := i) es.toList m 0 (by simpa using h3.len) hkeys with ⟨g1, g2, g3⟩ | ⟨q, hq, hq', g1, g2, g3, g4, g5⟩
  · have ht := Tch.setMap (s := s) (es := es.push { key := .int .i64 i, val := v, born := c }) (c := c + 1) h1 h2
    refine L_skip rfl rfl (w' := (s.setMap b (es.push { key := .int .i64 i, val := v, born := c }) (c + 1)).w) ?_ (h _ ht ⟨es.push { key := .int .i64 i, val := v, born := c }, c + 1, ?_, h2, ?_⟩)
    · simp [execOp, Instr.mapUpdate, run_underlying hT, hx, hk, hy, MapKept.run_getObj_map h1, MapKept.run_setObj_map _ h1, hck, Instr.findKey, run_underlying hK, g3, St.setMap]
    · have := (Array.getElem?_eq_some_iff.1 h1).1
      simp [St.setMap, this]
    · have hms : mset m i z = m ++ [(i, z)] := by unfold mset; rw [if_neg (by simp [g2])]
      refine ⟨by simp [hms, h3.len], ?_, ?_, ?_, by exact mset_keys m i z h3.keys⟩
      · rw [hms]
        intro q hq hq'
        simp only [Array.size_push] at hq'
        by_cases hlt : q < m.length
        · rw [Array.getElem_push_lt (by rw [h3.len]; exact hlt), List.getElem_append_left hlt]
          have := h3.ent q hlt (by rw [h3.len]; exact hlt)
          exact ⟨this.1, this.2.mono ht.le⟩
        · have hqe : q = es.size := by simp at hq; rw [h3.len]; omega
          subst hqe
          have hl := h3.len
          rw [Array.getElem_push_eq, List.getElem_append_right (by omega)]
          simp only [h3.len, Nat.sub_self, List.getElem_cons_zero]
          exact ⟨trivial, hV.mono ht.le⟩
      · intro q hq
        simp only [Array.size_push] at hq
        by_cases hlt : q < es.size
        · rw [Array.getElem_push_lt hlt]; have := h3.born q hlt; omega
        · have : q = es.size := by omega
          subst this; rw [Array.getElem_push_eq]; simp
      · intro p q hp hq e
        simp only [Array.size_push] at hp hq
        by_cases hpl : p < es.size
        · by_cases hql : q < es.size
          · rw [Array.getElem_push_lt hpl, Array.getElem_push_lt hql] at e; exact h3.dist p q hpl hql e
          · have hqe : q = es.size := by omega
            subst hqe
            rw [Array.getElem_push_lt hpl, Array.getElem_push_eq] at e
            have := h3.born p hpl; simp only at e; omega
        · have hpe : p = es.size := by omega
          by_cases hql : q < es.size
          · subst hpe
            rw [Array.getElem_push_lt hql, Array.getElem_push_eq] at e
            have := h3.born q hql; simp only at e; omega
          · omega
  · simp only [Nat.zero_add] at g5
    have hqs : q < es.size := by simpa using hq'
    have hkey : es[q].key = .int .i64 i := by rw [(h3.ent q hq hqs).1, g1]
    have ht := Tch.setMap (s := s) (es := es.modify q fun e => { e with key := .int .i64 i, val := v }) (c := c) h1 h2
    refine L_skip rfl rfl (w' := (s.setMap b (es.modify q fun e => { e with key := .int .i64 i, val := v }) c).w) ?_ (h _ ht ⟨es.modify q fun e => { e with key := .int .i64 i, val := v }, c, ?_, h2, ?_⟩)
    · have hst : (Instr.keyThatStays (((es[q]?).map (·.key)).getD (.int .i64 i)) (.int .i64 i)).run P s.w = .ok (.int .i64 i) s.w := by
        have hsb : Instr.sameBits 10000 (.int .i64 i) (.int .i64 i) = true := by rw [Instr.sameBits]; simp
        simp [Array.getElem?_eq_getElem hqs, hkey, Instr.keyThatStays, hsb]
      simp [execOp, Instr.mapUpdate, run_underlying hT, hx, hk, hy, MapKept.run_getObj_map h1, MapKept.run_setObj_map _ h1, hck, Instr.findKey, run_underlying hK, g5, hst, St.setMap]
    · have := (Array.getElem?_eq_some_iff.1 h1).1
      simp [St.setMap, this]
    · have hms : mset m i z = m.map (fun e => if e.1 == i then (i, z) else e) := by unfold mset; rw [if_pos (by simp [g4])]
      refine ⟨by simp [hms, h3.len], ?_, ?_, ?_, by exact mset_keys m i z h3.keys⟩
      · rw [hms]
        intro p hp hp'
        simp only [List.length_map] at hp
        simp only [Array.size_modify] at hp'
        rw [Array.getElem_modify, List.getElem_map]
        have hen := h3.ent p hp hp'
        by_cases e : q = p
        · subst e
          rw [if_pos rfl, if_pos (by simp [g1])]
          exact ⟨rfl, hV.mono ht.le⟩
        · rw [if_neg e]
          have hne : m[p].1 ≠ i := by
            intro he
            have hn := List.pairwise_iff_getElem.1 h3.keys
            rcases Nat.lt_or_gt_of_ne e with hlt | hlt
            · exact hn q p (by simpa using hq) (by simpa using hp) hlt (by simp [g1, he])
            · exact hn p q (by simpa using hp) (by simpa using hq) hlt (by simp [g1, he])
          rw [if_neg (by simpa using hne)]
          exact ⟨hen.1, hen.2.mono ht.le⟩
      · intro p hp
        simp only [Array.size_modify] at hp
        rw [Array.getElem_modify]
        split
        · exact h3.born p hp
        · exact h3.born p hp
      · intro p r hp hr e
        simp only [Array.size_modify] at hp hr
        rw [Array.getElem_modify, Array.getElem_modify] at e
        refine h3.dist p r hp hr ?_
        split at e <;> split at e <;> exact e


theorem run_lookup_map {T K E : TypeId} {es : Array MapEntry} {c b : Nat} {m : List (Int × β)} {i : Int} {zv : Value} {z0 : β} {ok : Bool} (hT : P.underlying T = some (.map K E)) (hK : P.underlying K = some (.int .i64))
    (hz : (P.info? E).map (·.zero) = some (some zv)) (hz0 : V s zv z0) (hb : s.w.heap[b]? = some (.map es c)) (hM : MapRel s es c m) :
    ∃ v, V s v ((mget m i).getD z0) ∧ (Instr.lookup T (.map (some b)) (.int .i64 i) ok).run P s.w = .ok (if ok then .tuple #[v, .bool (mget m i).isSome] else v) s.w := by
  have hck : (Instr.checkKey es.isEmpty 10000 K (.int .i64 i)).run P s.w = .ok () s.w := MapKept.run_checkKey hK (by simp [MapKept.IsKey]) es.isEmpty 9999
  have hkeys : ∀ q (h : q < m.length) (h' : q < es.toList.length), es.toList[q].key = .int .i64 m[q].1 := fun q h h' => by
    have := (hM.ent q h (by simpa using h')).1
    simpa using this
  obtain ⟨inf, hi1, hi2⟩ := Option.map_eq_some_iff.1 hz
  rcases findNow_int (k := i) es.toList m 0 (by simpa using hM.len) hkeys with ⟨g1, g2, g3⟩ | ⟨q, hq, hq', g1, g2, g3, g4, g5⟩
  · refine ⟨zv, by rw [g1]; exact hz0, ?_⟩
    simp [Instr.lookup, run_underlying hT, MapKept.run_getObj_map hb, hck, Instr.findKey, run_underlying hK, g3, zeroValue, typeInfo, hi1, hi2, g1]
  · refine ⟨es[q]'(by simpa using hq') |>.val, by rw [g3]; exact (hM.ent q hq (by simpa using hq')).2, ?_⟩
    simp [Instr.lookup, run_underlying hT, MapKept.run_getObj_map hb, hck, Instr.findKey, run_underlying hK, g5, g3]

/-- The same of a map of the call's own. -/
theorem L_lookupX {T K E : TypeId} {x k : Operand} {zv : Value} {b : Nat} {m : List (Int × β)} {i : Int} {z0 : β} (hT : P.underlying T = some (.map K E)) (hK : P.underlying K = some (.int .i64))
    (hz : (P.info? E).map (·.zero) = some (some zv)) (hz0 : V s zv z0) (hx : ev f x = .map (some b)) (hk : ev f k = .int .i64 i) (hM : MapX s b m) (hd : d < n)
    (h : ∀ v, V s v ((mget m i).getD z0) → L P n ops Q rest (upd f d v) s.w) : L P n ops Q (⟨some d, .lookup T x k false, ty, pos, aft, none⟩ :: rest) f s.w := by
  obtain ⟨es, c, h1, h2, h3⟩ := hM
  obtain ⟨u, hu, hr⟩ := run_lookup_map (ok := false) (i := i) hT hK hz hz0 h1 h3
  refine L_val (v := u) rfl (fun k e => by cases e; exact hd) ?_ (h _ hu)
  simp [execOp, hx, hk, hr]
end
end Go.Arm
namespace Go.Arm
open Go Go.RowKit

theorem perm_take {κ : Type} (key : κ → Nat) : ∀ (L : List κ) (p : κ), (L.map key).Nodup → p ∈ L → L.Perm (p :: L.filter (fun x => key x != key p))
  | [], p, _, h => by simp at h
  | x :: L, p, hn, h => by
    simp only [List.map_cons, List.nodup_cons] at hn
    rcases List.mem_cons.1 h with rfl | hm
    · have : L.filter (fun x => key x != key p) = L := by
        rw [List.filter_eq_self]
        intro y hy
        simp only [bne_iff_ne, ne_eq]
        intro e
        exact hn.1 (e ▸ List.mem_map_of_mem hy)
      simp [this]
    · have hne : key x ≠ key p := fun e => hn.1 (e ▸ List.mem_map_of_mem hm)
      have ih := perm_take key L p hn.2 hm
      rw [List.filter_cons_of_pos (by simpa using hne)]
      exact (ih.cons x).trans (List.Perm.swap p x _)

section
variable {β : Type} [Rep β]
/-- What of a map's entries has not been seen. -/
def leftL {β : Type} (es : List MapEntry) (m : List (Int × β)) (seen : Array Nat) : List (Int × β) := ((es.zip m).filter (fun p => !seen.contains p.1.born)).map (·.2)

/-- An iterator, of the call's own, with what is left. -/
def Iter (s : St) (r : Nat) (R : List (Int × β)) : Prop :=
  s.g r = 0 ∧ ((R = [] ∧ ∃ a b c, s.w.heap[r]? = some (.mapIter none a b c)) ∨
  ∃ bm es clock seen c0 m, s.w.heap[r]? = some (.mapIter (some bm) clock seen c0) ∧ clock ≤ c0 ∧ s.w.heap[bm]? = some (.map es clock) ∧ 0 < s.g bm ∧ MapRel s es clock m ∧ R = leftL es.toList m seen)

/-- The same behind a step: the entry at hand, and what is left. -/
def IterAt (s : St) (r : Nat) (kv : Int × β) (R : List (Int × β)) : Prop :=
  s.g r = 0 ∧ ∃ (bm : Nat) (es : Array MapEntry) (clock : Nat) (seen : Array Nat) (m : List (Int × β)) (i : Nat) (h : i < es.size) (h' : i < m.length), s.w.heap[r]? = some (.mapIter (some bm) clock (seen.push es[i].born) clock) ∧ s.w.heap[bm]? = some (.map es clock) ∧ 0 < s.g bm ∧
    MapRel s es clock m ∧ kv = m[i] ∧ R = leftL es.toList m (seen.push es[i].born)

theorem IterAt.iter {s : St} {r : Nat} {kv : Int × β} {R : List (Int × β)} (h : IterAt s r kv R) : Iter s r R := by
  obtain ⟨hg, bm, es, c, seen, m, i, h1, h2, h3, h4, h5, h6, h7, h8⟩ := h
  exact ⟨hg, .inr ⟨bm, es, c, _, c, m, h3, Nat.le_refl _, h4, h5, h6, h8⟩⟩

theorem Iter.lt {s : St} {r : Nat} {R : List (Int × β)} (h : Iter s r R) : r < s.w.heap.size := by
  obtain ⟨_, ⟨_, a, b, c, h⟩ | ⟨bm, es, c, seen, c0, m, h, _⟩⟩ := h <;> exact (Array.getElem?_eq_some_iff.1 h).1
theorem IterAt.lt {s : St} {r : Nat} {kv : Int × β} {R : List (Int × β)} (h : IterAt s r kv R) : r < s.w.heap.size := h.iter.lt

theorem map_kept {s s' : St} {bm : Nat} {es : Array MapEntry} {c : Nat} (l : Le s s') (h : s.w.heap[bm]? = some (.map es c)) (hg : 0 < s.g bm) : s'.w.heap[bm]? = some (.map es c) ∧ 0 < s'.g bm :=
  ⟨(l.obj bm hg (fun c e z he => by rw [h] at he; cases he)).trans h, Nat.lt_of_lt_of_le hg (l.g bm)⟩

theorem Iter.tch {s s' : St} {r : Nat} {R : List (Int × β)} {M : Nat → Prop} (h : Iter s r R) (t : Tch M s s') (hr : ¬ M r) : Iter s' r R := by
  have hl := h.lt
  obtain ⟨hg, h⟩ := h
  refine ⟨(t.g r hl hr).trans hg, ?_⟩
  rcases h with ⟨e, a, b, c, h⟩ | ⟨bm, es, c, seen, c0, m, h1, h2, h3, h4, h5, h6⟩
  · exact .inl ⟨e, a, b, c, (t.block r hl hr).trans h⟩
  · obtain ⟨k1, k2⟩ := map_kept t.le h3 h4
    exact .inr ⟨bm, es, c, seen, c0, m, (t.block r hl hr).trans h1, h2, k1, k2, h5.mono t.le, h6⟩
theorem Iter.ext {s s' : St} {r : Nat} {R : List (Int × β)} (h : Iter s r R) (t : Ext s s') : Iter s' r R := h.tch t (fun x => x)
theorem IterAt.tch {s s' : St} {r : Nat} {kv : Int × β} {R : List (Int × β)} {M : Nat → Prop} (h : IterAt s r kv R) (t : Tch M s s') (hr : ¬ M r) : IterAt s' r kv R := by
  have hl := h.lt
  obtain ⟨hg, bm, es, c, seen, m, i, h1, h2, h3, h4, h5, h6, h7, h8⟩ := h
  obtain ⟨k1, k2⟩ := map_kept t.le h4 h5
  exact ⟨(t.g r hl hr).trans hg, bm, es, c, seen, m, i, h1, h2, (t.block r hl hr).trans h3, k1, k2, h6.mono t.le, h7, h8⟩
theorem IterAt.ext {s s' : St} {r : Nat} {kv : Int × β} {R : List (Int × β)} (h : IterAt s r kv R) (t : Ext s s') : IterAt s' r kv R := h.tch t (fun x => x)

omit [Rep β] in
theorem leftL_nil {es : List MapEntry} {m : List (Int × β)} (h : es.length = m.length) : leftL es m #[] = m := by
  unfold leftL
  rw [List.filter_eq_self.2 (by simp)]
  exact List.map_snd_zip (by omega)

theorem born_nodup {s : St} {es : Array MapEntry} {c : Nat} {m : List (Int × β)} (h : MapRel s es c m) : (es.toList.map (·.born)).Nodup := by
  rw [List.Nodup, List.pairwise_iff_getElem]
  intro i j hi hj hlt e
  simp only [List.length_map, Array.length_toList] at hi hj
  simp only [List.getElem_map, Array.getElem_toList] at e
  have := h.dist i j hi hj e
  omega

theorem leftL_take {s : St} {es : Array MapEntry} {c : Nat} {m : List (Int × β)} {seen : Array Nat} (h : MapRel s es c m) {i : Nat} (hi : i < es.size) (hm : i < m.length) (hs : es[i].born ∉ seen) :
    (leftL es.toList m seen).Perm (m[i] :: leftL es.toList m (seen.push es[i].born)) := by
  unfold leftL
  have hz : (es[i], m[i]) ∈ es.toList.zip m := by
    have : (es.toList.zip m)[i]'(by simp; omega) = (es[i], m[i]) := by simp
    rw [← this]; exact List.getElem_mem _
  have hn : (((es.toList.zip m).filter (fun p => !seen.contains p.1.born)).map (fun p => p.1.born)).Nodup := by
    have h1 : ((es.toList.zip m).map (fun p => p.1.born)).Nodup := by
      have : (es.toList.zip m).map (fun p => p.1.born) = es.toList.map (·.born) := by
        rw [← List.map_fst_zip (l₁ := es.toList) (l₂ := m) (by simp [h.len]), List.map_map]
        congr 1
        rw [List.map_fst_zip (by simp [h.len])]
      rw [this]; exact born_nodup h
    exact List.Sublist.nodup (List.Sublist.map _ List.filter_sublist) h1
  have := perm_take (fun p : MapEntry × (Int × β) => p.1.born) _ (es[i], m[i]) hn (by rw [List.mem_filter]; exact ⟨hz, by simpa using hs⟩)
  have h2 := this.map (·.2)
  simp only [List.map_cons] at h2
  refine h2.trans (List.Perm.cons _ (List.Perm.of_eq ?_))
  rw [List.filter_filter]
  congr 1
  apply List.filter_congr
  intro p _
  rw [Bool.eq_iff_iff]
  simp only [Bool.and_eq_true, bne_iff_ne, ne_eq, Bool.not_eq_true', Array.contains_eq_mem, Array.mem_push, decide_eq_false_iff_not, not_or]
  exact ⟨fun h => ⟨h.2, h.1⟩, fun h => ⟨h.2, h.1⟩⟩
end

section
variable {P : Program} {n : Nat} {Q : Post} {f : Fr} {w : World} {ops : Array Oper} {rest : List Oper} {s : St}
variable {d : Nat} {ty : TypeId} {pos : String} {aft : Array Edge} {β : Type} [Rep β]

theorem L_range {T K E : TypeId} {x : Operand} {v : Value} {m : List (Int × β)} (hT : P.underlying T = some (.map K E)) (hx : ev f x = v) (hM : MapV s v m) (hd : d < n)
    (h : ∀ s' r, Ext s s' → s.w.heap.size ≤ r → Iter s' r m → L P n ops Q rest (upd f d (.pointer (some ⟨r, 0, none⟩))) s'.w) :
    L P n ops Q (⟨some d, .range T x, ty, pos, aft, none⟩ :: rest) f s.w := by
  rcases hM with ⟨rfl, rfl⟩ | ⟨b, es, c, rfl, h1, h2, h3⟩
  · refine L_val rfl (fun k e => by cases e; exact hd) (w' := s.w.alloc (.mapIter none 0 #[] 0)) (v := .pointer (some ⟨s.w.heap.size, 0, none⟩)) (by simp [execOp, hx, run_range_nilMap _ _ _ _ hT]) ?_
    exact h (s.new (.mapIter none 0 #[] 0) 0) s.w.heap.size (Ext.new _ _ _) (Nat.le_refl _) ⟨if_pos rfl, .inl ⟨rfl, 0, #[], 0, heap_alloc_new s.w _⟩⟩
  · have hE := Ext.new s (.mapIter (some b) c #[] c) 0
    obtain ⟨k1, k2⟩ := map_kept hE.le h1 h2
    refine L_val rfl (fun k e => by cases e; exact hd) (w' := s.w.alloc (.mapIter (some b) c #[] c)) (v := .pointer (some ⟨s.w.heap.size, 0, none⟩)) (by simp [execOp, hx, run_range_map _ _ _ _ _ _ _ hT h1]) ?_
    exact h (s.new (.mapIter (some b) c #[] c) 0) s.w.heap.size hE (Nat.le_refl _) ⟨if_pos rfl, .inr ⟨b, es, c, #[], c, m, heap_alloc_new s.w _, Nat.le_refl _, k1, k2, h3.mono hE.le, (leftL_nil (by simpa using h3.len)).symm⟩⟩

/-- A block that is no row of cells, of the call's own, is set. -/
def St.setObj (s : St) (b : Nat) (o : Obj) : St := ⟨{ s.w with heap := s.w.heap.setIfInBounds b o }, s.g, fun k hk => s.ok k (by simpa using hk)⟩
theorem Tch.setObj {b : Nat} {o o' : Obj} (ho : s.w.heap[b]? = some o) (hg : s.g b = 0) : Tch (fun k => k = b) s (s.setObj b o') := by
  have hoth : ∀ k, k ≠ b → (s.w.heap.setIfInBounds b o')[k]? = s.w.heap[k]? := fun k hk => by rw [Array.getElem?_setIfInBounds, if_neg (fun e => hk e.symm)]
  refine ⟨rfl, rfl, rfl, by simp [St.setObj], fun k _ nk => hoth k nk, fun _ _ _ => rfl, fun _ => Nat.le_refl _, fun k o hlt => ?_, fun k hk _ => ?_⟩
  · by_cases e : k = b
    · subst e; rw [hg] at hlt; omega
    · simp only [World.cell?, St.setObj]; rw [hoth k e]
  · by_cases e : k = b
    · subst e; rw [hg] at hk; omega
    · exact hoth k e

theorem L_next {x : Operand} {r : Nat} {R : List (Int × β)} (hx : ev f x = .pointer (some ⟨r, 0, none⟩)) (hI : Iter s r R) (hd : d < n)
    (h0 : R = [] → L P n ops Q rest (upd f d (.tuple #[.bool false])) s.w)
    (h1 : ∀ kv R' s' u, R.Perm (kv :: R') → Tch (fun k => k = r) s s' → IterAt s' r kv R' → L P n ops Q rest (upd f d (.tuple #[.bool true, .int .i64 kv.1, u])) s'.w) :
    L P n ops Q (⟨some d, .next x false, ty, pos, aft, none⟩ :: rest) f s.w := by
  obtain ⟨hg, ⟨hR, a, b, c, hh⟩ | ⟨bm, es, c, seen, c0, m, hh, hc, hm, hgm, hrel, hR⟩⟩ := hI
  · refine L_val rfl (fun k e => by cases e; exact hd) (w' := s.w) (v := .tuple #[.bool false]) ?_ (h0 hR)
    have : (Instr.next (.pointer (some ⟨r, 0, none⟩)) false ty).run P s.w = .ok (.tuple #[.bool false]) s.w := by
      simp only [Instr.next, getObj, Sem.run_bind, Sem.run, hh, Result.andThen]; rfl
    simp [execOp, hx, this]
  · have hold : ∀ x ∈ es.toList, x.born < c := by
      intro e he
      obtain ⟨i, hi, rfl⟩ := List.getElem_of_mem he
      simpa using hrel.born i (by simpa using hi)
    rcases run_next_at (P := P) s.w ty r bm c c0 seen es c hh hm hold hc with ⟨hz, hr⟩ | ⟨e, he, w1, hw1, hr⟩
    · refine L_val rfl (fun k e => by cases e; exact hd) (w' := s.w) (v := .tuple #[.bool false]) (by simp [execOp, hx, hr]) (h0 ?_)
      rw [hR]
      unfold leftL
      rw [List.map_eq_nil_iff, List.filter_eq_nil_iff]
      intro p hp
      have hp1 : p.1 ∈ es.toList := (List.of_mem_zip hp).1
      unfold leftOf at hz
      have hz' := Array.eq_empty_of_size_eq_zero hz
      rw [Array.filter_eq_empty_iff] at hz'
      exact hz' p.1 (by simpa using hp1)
    · unfold leftOf at he
      simp only [Array.toList_filter, List.mem_filter] at he
      obtain ⟨hmem, hns⟩ := he
      obtain ⟨i, hi, rfl⟩ := List.getElem_of_mem hmem
      simp only [Array.length_toList] at hi
      simp only [Array.getElem_toList] at hns hr
      have him : i < m.length := by have := hrel.len; omega
      have hkey := (hrel.ent i him hi).1
      obtain ⟨s1, hs1w, hs1E⟩ : ∃ s1 : St, s1.w = w1 ∧ Ext s s1 := by
        rcases hw1 with rfl | rfl
        · exact ⟨s, rfl, Ext.refl s⟩
        · exact ⟨s.drew, rfl, Ext.drew s⟩
      have hlt := (Array.getElem?_eq_some_iff.1 hh).1
      have hh1 : s1.w.heap[r]? = some (.mapIter (some bm) c seen c0) := (hs1E.block r hlt (fun x => x)).trans hh
      have hg1 : s1.g r = 0 := (hs1E.g r hlt (fun x => x)).trans hg
      have ht := Tch.setObj (s := s1) (o' := .mapIter (some bm) c (seen.push es[i].born) c) hh1 hg1
      have htt : Tch (fun k => k = r) s (s1.setObj r (.mapIter (some bm) c (seen.push es[i].born) c)) := Tch.trans hs1E.to ht (fun x hx => .inl hx)
      obtain ⟨k1, k2⟩ := map_kept htt.le hm hgm
      refine L_val rfl (fun k e => by cases e; exact hd) (w' := (s1.setObj r (.mapIter (some bm) c (seen.push es[i].born) c)).w) (v := .tuple #[.bool true, .int .i64 m[i].1, es[i].val]) ?_
        (h1 m[i] (leftL es.toList m (seen.push es[i].born)) _ _ ?_ htt ⟨hg1, bm, es, c, seen, m, i, hi, him, ?_, k1, k2, hrel.mono htt.le, rfl, rfl⟩)
      · rw [hkey] at hr
        simp only [execOp, hx, Sem.run_bind, hr, Result.andThen_ok, Sem.run_pure]
        rw [← hs1w]; rfl
      · rw [hR]
        exact leftL_take hrel hi him (by simpa using hns)
      · have hr1 := (Array.getElem?_eq_some_iff.1 hh1).1
        simp [St.setObj, hr1]

theorem L_entry {x : Operand} {r : Nat} {kv : Int × β} {R : List (Int × β)} (hx : ev f x = .pointer (some ⟨r, 0, none⟩)) (hI : IterAt s r kv R) (hd : d < n)
    (h : ∀ v, V s v kv.2 → L P n ops Q rest (upd f d (.tuple #[.int .i64 kv.1, v])) s.w) : L P n ops Q (⟨some d, .entry x, ty, pos, aft, none⟩ :: rest) f s.w := by
  obtain ⟨hg, bm, es, c, seen, m, i, hi, him, hh, hm, hgm, hrel, rfl, hR⟩ := hI
  have hr := run_entry_at (P := P) s.w r bm c seen es c es[i] hh hm (by simp) (born_nodup hrel)
  obtain ⟨hk, hv⟩ := hrel.ent i him hi
  rw [hk] at hr
  refine L_val rfl (fun k e => by cases e; exact hd) (w' := s.w) (v := .tuple #[.int .i64 m[i].1, es[i].val]) (by simp [execOp, hx, hr]) (h _ hv)
end

/-! The pure side. -/
inductive LR (σ β ρ : Type) where
  | next (s : σ)
  | brk (b : β)
  | ret (r : ρ)
def foldE {κ σ β ρ : Type} (body : κ → σ → Option (LR σ β ρ)) (fin : σ → β) : List κ → σ → Option (Sum β ρ)
  | [], s => some (.inl (fin s))
  | k :: l, s => (body k s).bind fun x => match x with
    | .next s' => foldE body fin l s'
    | .brk b => some (.inl b)
    | .ret r => some (.inr r)
/-- What does not hang on the order. -/
noncomputable def anyPerm {κ γ : Type} (g : List κ → Option γ) (m : List κ) : Option γ := by
  classical exact if h : ∃ r, ∀ l : List κ, l.Perm m → g l = some r then some (Classical.choose h) else none
end Go.Arm
namespace Go.Arm
open Go
/-- A slice's beginning, of an array of the call's own. -/
def cutV (b len sz : Nat) (hi : Int) : Value := .slice (if len = (0 : Int).toNat then some ⟨b, 0, none⟩ else (some (⟨b, 0, none⟩ : Addr)).map (·.add ((0 : Int).toNat * sz))) (hi.toNat - (0 : Int).toNat) (len - (0 : Int).toNat)
section
variable {P : Program} {n : Nat} {Q : Post} {f : Fr} {w : World} {ops : Array Oper} {rest : List Oper}
variable {d : Nat} {ty : TypeId} {pos : String} {aft : Array Edge}
end
end Go.Arm
namespace Go.Arm
/-- What follows a round. -/
def foldK {κ σ β ρ : Type} (body : κ → σ → Option (LR σ β ρ)) (fin : σ → β) (x : LR σ β ρ) (l : List κ) : Option (Sum β ρ) :=
  match x with
  | .next s' => foldE body fin l s'
  | .brk b => some (.inl b)
  | .ret r => some (.inr r)
end Go.Arm
namespace Go.Arm
open Go Go.RowKit

def unc (cons : List (List Nat)) (k j : Nat) : Bool := (List.range k).all fun i => !(cons.getD i []).contains j
theorem unc_spec {cons : List (List Nat)} {k j : Nat} (h : unc cons k j = true) : ∀ i, i < k → j ∉ cons.getD i [] := by
  intro i hi hm
  unfold unc at h
  rw [List.all_eq_true] at h
  have := h i (by simpa using hi)
  rw [List.contains_iff_mem.2 hm] at this
  simp at this

theorem ent2 {p : Nat → Prop} {k L : Nat} (hL : L = k + 2) (h : p k) (h' : p (k + 1)) : ∀ j, k ≤ j → j < L → p j := fun j h1 h2 => by
  rcases (by omega : j = k ∨ j = k + 1) with e | e <;> rw [e]
  · exact h
  · exact h'
theorem dis2 {p : Nat → Nat → Prop} {k L : Nat} (hL : L = k + 2) (h : p k (k + 1)) (h' : p (k + 1) k) : ∀ i j, k ≤ i → i < L → k ≤ j → j < L → i ≠ j → p i j := fun i j _ _ _ _ _ => by
  rcases (by omega : (i = k ∧ j = k + 1) ∨ (i = k + 1 ∧ j = k)) with ⟨e, e'⟩ | ⟨e, e'⟩ <;> rw [e, e']
  · exact h
  · exact h'

section
variable {P : Program} {n : Nat} {Q : Post} {f : Fr}
/-- The same, with what is known of the blocks that belong to what is given. -/
theorem W_drawO {id : Nat} {s : St} {l : List Oper} (hm : P.follows .mixedOrders = true) (k : Nat) (pxs : List PX) (slots : List Nat) (cons : List (List Nat)) (hk : l.toArray.size = k)
    (hok : planOk n l.toArray slots cons = true)
    (h0 : ∀ j, k ≤ j → j < slots.length → (pxs.getD j PX.any).p (f (slots.getD j 0)) s)
    (hd0 : ∀ i j, k ≤ i → i < slots.length → k ≤ j → j < slots.length → i ≠ j → ∀ b, (pxs.getD i PX.any).own (f (slots.getD i 0)) b → ¬ (pxs.getD j PX.any).own (f (slots.getD j 0)) b)
    (steps : StepsX P n l.toArray ⟨pxs, slots, cons⟩ f s l 0)
    (fin : ∀ f' s', Tch ((⟨pxs, slots, cons⟩ : Plan).ent l.toArray f) s s' → (∀ j, j < slots.length → unc cons k j = true → (pxs.getD j PX.any).p (f' (slots.getD j 0)) s') →
      (∀ i j, i < slots.length → j < slots.length → unc cons k i = true → unc cons k j = true → i ≠ j → ∀ b, (pxs.getD i PX.any).own (f' (slots.getD i 0)) b → ¬ (pxs.getD j PX.any).own (f' (slots.getD j 0)) b) →
      (∀ j b, j < slots.length → unc cons k j = true → (pxs.getD j PX.any).own (f' (slots.getD j 0)) b → (⟨pxs, slots, cons⟩ : Plan).ent l.toArray f b ∨ s.w.heap.size ≤ b) →
      (∀ t, unwritten l.toArray t = true → f' t = f t) → Q .normal f' s'.w) :
    W P n (.region id l.toArray true) Q f s.w := by
  subst hk
  refine W_drawX hm ⟨pxs, slots, cons⟩ hok h0 (fun i j a b c d e => hd0 i j a b c d e) steps ?_
  intro f' s' hT hP hD hO hB
  exact fin f' s' hT (fun j hj hu => hP j hj (unc_spec hu)) (fun i j hi hj ui uj hne => hD i j hi hj (unc_spec ui) (unc_spec uj) hne) (fun j b hj hu => hO j b hj (unc_spec hu)) hB

theorem ent_is2 {pxs : List PX} {slots : List Nat} {cons : List (List Nat)} {ops : Array Oper} {k : Nat} (hk : ops.size = k) (hL : slots.length = k + 2) {b : Nat} (h : (⟨pxs, slots, cons⟩ : Plan).ent ops f b) : (pxs.getD k PX.any).own (f (slots.getD k 0)) b ∨ (pxs.getD (k + 1) PX.any).own (f (slots.getD (k + 1) 0)) b := by
  obtain ⟨j, h1, h2, h3⟩ := h
  simp only at h2
  rcases (by omega : j = k ∨ j = k + 1) with e | e <;> subst e
  · exact .inl h3
  · exact .inr h3
end
end Go.Arm
namespace Go.Arm
open Go Go.RowKit

section
variable {α β : Type} [Rep α] [Rep β]
/-- The struct as it lies, but for the elements of the array. -/
def Shell (set : α → List β → α) (off : Nat) (s : St) (p : Value) (bat len : Nat) (x : α) : Prop :=
  ∃ b cs, p = .pointer (some ⟨b, 0, none⟩) ∧ AtRO s b 0 cs ∧ cs[off]? = some (.slice (some ⟨bat, 0, none⟩) len len) ∧
    ∀ s' ys, Le s s' → V s' (.slice (some ⟨bat, 0, none⟩) len len) ys → Rep.rel s' cs (set x ys)
variable {set : α → List β → α} {off : Nat} {s s' : St} {p : Value} {bat len : Nat} {x : α} {E : TypeId}
theorem Shell.mono (h : Shell set off s p bat len x) (l : Le s s') : Shell set off s' p bat len x := by
  obtain ⟨b, cs, e, h1, h2, h3⟩ := h
  exact ⟨b, cs, e, h1.mono l, h2, fun s'' ys l' => h3 s'' ys (l.trans l')⟩
theorem Shell.ptr {ys : List β} (h : Shell set off s p bat len x) (hv : V s (.slice (some ⟨bat, 0, none⟩) len len) ys) : Ptr s p (set x ys) := by
  obtain ⟨b, cs, e, h1, h2, h3⟩ := h
  exact ⟨b, 0, cs, e, h3 s ys (Le.refl s) hv, h1⟩
theorem Shell.at {ys : List β} (h : Shell set off s p bat len x) (hs : ∀ zs, set (set x ys) zs = set x zs) (ha : Arr s bat E len ys) : Shell set off s p bat ys.length (set x ys) := by
  obtain ⟨b, cs, e, h1, h2, h3⟩ := h
  have hl := ha.1
  subst hl
  exact ⟨b, cs, e, h1, h2, fun s'' zs l hv => by rw [hs]; exact h3 s'' zs l hv⟩
/-- A fresh object, or none. -/
def ObjO (set : α → List β → α) (off : Nat) (proj : α → List β) (E : TypeId) (B : Nat) (s : St) (a : Value) (o : Option α) : Prop :=
  (o = none ∧ a = .pointer none) ∨ ∃ x bat, o = some x ∧ B ≤ bat ∧ Shell set off s a bat (proj x).length x ∧ Arr s bat E (proj x).length (proj x)
theorem ObjO.open {proj : α → List β} {B : Nat} {a : Value} {o : Option α} (h : ObjO set off proj E B s a o) {x : α} (hx : o = some x) :
    ∃ bat, B ≤ bat ∧ Shell set off s a bat (proj x).length x ∧ Arr s bat E (proj x).length (proj x) := by
  rcases h with ⟨hn, _⟩ | ⟨x', bat, hx', h⟩
  · rw [hn] at hx; cases hx
  · rw [hx'] at hx; cases hx; exact ⟨bat, h⟩

/-- What a call comes to that may write the blocks in M. -/
def RetM (M : Nat → Prop) (s : St) (Φ : Value → St → Prop) : Ending → World → Prop := fun e w' => ∃ v s', e = .returned v ∧ s'.w = w' ∧ Tch M s s' ∧ Φ v s'

/-- A pointer to a cell that nobody writes, whose content is known. -/
def CellRO (s : St) (q v : Value) : Prop := ∃ b o, q = .pointer (some ⟨b, o, none⟩) ∧ AtRO s b o [v]
theorem CellRO.mono {q v : Value} (h : CellRO s q v) (l : Le s s') : CellRO s' q v := by
  obtain ⟨b, o, e, h⟩ := h; exact ⟨b, o, e, h.mono l⟩
theorem Shell.some (h : Shell set off s p bat len x) : ∃ a, p = .pointer (some a) := by obtain ⟨b, cs, e, _⟩ := h; exact ⟨_, e⟩
end

section
variable {P : Program} {n : Nat} {Q : Post} {f : Fr} {w : World} {ops : Array Oper} {rest : List Oper} {s : St}
variable {d : Nat} {ty : TypeId} {pos : String} {aft : Array Edge} {α β : Type} [Rep α] [Rep β]

theorem Grows.tchM {B : Nat} {E : TypeId} {v v' : Value} {zs : List α} {s0 s' : St} {M : Nat → Prop} (g : Grows s B E v v' zs s') {xs : List α} (h : Bld s B E v xs) (hE : Tch M s0 s) (hB : s0.w.heap.size ≤ B) : Tch M s0 s' :=
  Tch.trans hE g.tch (fun _ hb => .inr (Nat.le_trans hB (h.lt hb).1))
end
end Go.Arm
