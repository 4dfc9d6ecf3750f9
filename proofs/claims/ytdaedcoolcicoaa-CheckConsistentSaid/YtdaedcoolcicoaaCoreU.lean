/- Rules for steps of the code over memory with claims. -/
import Derived.Test.YtdaedcoolcicoaaCoreI
import Derived.RangeFuncCalls
namespace Go.Arm
open Go Go.RowKit

/-- What a run that ends well leaves is the world that it had. -/
def Stl {α : Type} (x : Sem α) : Prop := ∀ P w r w', x.run P w = .ok r w' → w' = w
/-- What it gives does not depend on the world. -/
def Loc {α : Type} (x : Sem α) : Prop := ∀ P w r w', x.run P w = .ok r w' → ∀ w2, x.run P w2 = .ok r w2
theorem Loc.stl {α : Type} {x : Sem α} (h : Loc x) : Stl x := fun P w r w' e => by
  have := h P w r w' e w
  rw [e] at this; cases this; rfl
def Dead {α : Type} (x : Sem α) : Prop := ∀ P w r w', x.run P w ≠ .ok r w'
theorem Dead.loc {α : Type} {x : Sem α} (h : Dead x) : Loc x := fun P w r w' e => absurd e (h P w r w')
theorem Loc.pure {α : Type} (a : α) : Loc (Pure.pure a : Sem α) := fun P w r w' e w2 => by simp only [Sem.run_pure] at e ⊢; cases e; rfl
theorem bind_ok {α β : Type} {x : Sem α} {f : α → Sem β} {P : Program} {w w' : World} {r : β} (h : (x >>= f).run P w = .ok r w') : ∃ a w1, x.run P w = .ok a w1 ∧ (f a).run P w1 = .ok r w' := by
  rw [Sem.run_bind] at h
  cases hx : x.run P w with
  | ok a w1 => rw [hx] at h; exact ⟨a, w1, rfl, h⟩
  | halt e w1 => rw [hx] at h; cases h
theorem Loc.bind {α β : Type} {x : Sem α} {f : α → Sem β} (h : Loc x) (k : ∀ a, Loc (f a)) : Loc (x >>= f) := fun P w r w' e w2 => by
  obtain ⟨a, w1, h1, h2⟩ := bind_ok e
  rw [Sem.run_bind, h P w a w1 h1 w2]
  exact k a P w1 r w' h2 w2
theorem Stl.bind {α β : Type} {x : Sem α} {f : α → Sem β} (h : Stl x) (k : ∀ a, Stl (f a)) : Stl (x >>= f) := fun P w r w' e => by
  obtain ⟨a, w1, h1, h2⟩ := bind_ok e
  have := h P w a w1 h1
  subst this
  exact k a P _ r w' h2
theorem Dead.bind {α β : Type} {x : Sem α} {f : α → Sem β} (k : ∀ a, Dead (f a)) : Dead (x >>= f) := fun P w r w' e => by
  obtain ⟨a, w1, h1, h2⟩ := bind_ok e
  exact k a P w1 r w' h2
theorem dead_stuck {α : Type} (s : String) : Dead (stuck s : Sem α) := fun P w r w' e => by simp at e
theorem dead_unsupported {α : Type} (u : Unsupported) : Dead (unsupported u : Sem α) := fun P w r w' e => by simp at e
theorem dead_goPanic {α : Type} (v : Value) : Dead (goPanic v : Sem α) := fun P w r w' e => by simp at e
theorem loc_program : Loc program := fun P w r w' e w2 => by simp only [run_program] at e ⊢; cases e; rfl
theorem dead_runtimePanic {α : Type} (e : RuntimeError) : Dead (runtimePanic e : Sem α) := by
  unfold runtimePanic
  refine Dead.bind fun p => ?_
  cases e <;> first | exact dead_goPanic _ | exact Dead.bind fun _ => dead_goPanic _ | exact Dead.bind fun _ => Dead.bind fun _ => dead_goPanic _ | exact dead_unsupported _
theorem dead_boundsPanic {α : Type} (k : IntKind) (x y : Int) (c : BoundsCode) : Dead (boundsPanic k x y c : Sem α) := by
  unfold boundsPanic
  dsimp only
  split <;> exact Dead.bind fun _ => dead_runtimePanic _
theorem loc_typeInfo (t : TypeId) : Loc (typeInfo t) := by
  unfold typeInfo
  refine Loc.bind loc_program fun p => ?_
  split
  · exact Loc.pure _
  · exact (dead_stuck _).loc
theorem loc_underlying (t : TypeId) : Loc (underlying t) := by
  unfold underlying
  refine Loc.bind loc_program fun p => ?_
  split
  · exact Loc.pure _
  · exact (dead_stuck _).loc
theorem loc_sizeOf (t : TypeId) : Loc (sizeOf t) := by
  unfold sizeOf
  exact Loc.bind (loc_typeInfo t) fun _ => Loc.pure _
theorem loc_isAgg (t : TypeId) : Loc (isAgg t) := by
  unfold isAgg
  refine Loc.bind (loc_underlying t) fun d => ?_
  split <;> exact Loc.pure _
theorem loc_asIntOf (v : Value) : Loc (asIntOf v) := by
  unfold asIntOf
  split
  · exact Loc.pure _
  · exact (dead_unsupported _).loc
  · exact (dead_stuck _).loc
theorem loc_asBool (v : Value) : Loc (asBool v) := by
  unfold asBool
  split
  · exact Loc.pure _
  · exact (dead_stuck _).loc
theorem loc_sureAddr (v : Value) : Loc (Instr.sureAddr v) := by
  unfold Instr.sureAddr
  split
  · exact Loc.pure _
  · exact (dead_stuck _).loc
theorem loc_indexAt (t : TypeId) (x i : Value) : Loc (Instr.indexAt t x i) := by
  unfold Instr.indexAt
  dsimp only
  repeat' first
    | exact Loc.pure _
    | exact loc_underlying _
    | exact loc_sizeOf _
    | exact loc_asIntOf _
    | exact loc_sureAddr _
    | exact (dead_stuck _).loc
    | exact (dead_unsupported _).loc
    | exact (dead_boundsPanic _ _ _ _).loc
    | refine Loc.bind ?_ fun _ => ?_
    | split
theorem loc_part (t : TypeId) (cs : Array Value) (o : Nat) : Loc (part t cs o) := by
  unfold part
  repeat' first
    | exact Loc.pure _
    | exact loc_isAgg _
    | exact loc_sizeOf _
    | exact (dead_stuck _).loc
    | refine Loc.bind ?_ fun _ => ?_
    | split
theorem loc_followBlind : ∀ (l : List FieldStep) (t : TypeId) (x : Option Value), Loc (followBlind l t x)
  | [], t, x => Loc.pure _
  | s :: r, t, x => by
    have ih := loc_followBlind r
    unfold followBlind
    repeat' first
      | exact Loc.pure _
      | exact ih _ _
      | exact loc_part _ _ _
      | exact loc_underlying _
      | exact (dead_stuck _).loc
      | refine Loc.bind ?_ fun _ => ?_
      | split
theorem loc_nilAhead : ∀ (n : Nat) (t : TypeId) (x : Value) (s : String), Loc (nilAhead n t x s)
  | 0, t, x, s => Loc.pure _
  | n + 1, t, x, s => by
    have ih := loc_nilAhead n
    unfold nilAhead
    repeat' first
      | exact Loc.pure _
      | exact ih _ _ _
      | exact loc_followBlind _ _ _
      | exact loc_underlying _
      | exact loc_typeInfo _
      | exact (dead_stuck _).loc
      | refine Loc.bind ?_ fun _ => ?_
      | split
theorem loc_asAddr (v : Value) : Loc (asAddr v) := by
  unfold asAddr
  repeat' first
    | exact Loc.pure _
    | exact (dead_stuck _).loc
    | exact (dead_unsupported _).loc
    | exact (dead_runtimePanic _).loc
    | refine Loc.bind ?_ fun _ => ?_
    | split
theorem loc_sliceBound (v : Value) (n : Nat) (c : BoundsCode) : Loc (Instr.sliceBound v n c) := by
  unfold Instr.sliceBound
  repeat' first
    | exact Loc.pure _
    | exact loc_asIntOf _
    | exact (dead_stuck _).loc
    | exact (dead_boundsPanic _ _ _ _).loc
    | refine Loc.bind ?_ fun _ => ?_
    | split
    | dsimp only
theorem loc_sliceBounds (b : Bool) (l c : Nat) (x y z : Option Value) : Loc (Instr.sliceBounds b l c x y z) := by
  unfold Instr.sliceBounds
  repeat' first
    | exact Loc.pure _
    | exact loc_sliceBound _ _ _
    | exact (dead_stuck _).loc
    | refine Loc.bind ?_ fun _ => ?_
    | split
    | dsimp only
theorem loc_slice (t : TypeId) (x : Value) (a b c : Option Value) : Loc (Instr.slice t x a b c) := by
  unfold Instr.slice
  repeat' first
    | exact Loc.pure _
    | exact loc_underlying _
    | exact loc_sizeOf _
    | exact loc_asAddr _
    | exact loc_sliceBounds _ _ _ _ _ _
    | exact (dead_stuck _).loc
    | refine Loc.bind ?_ fun _ => ?_
    | split
    | dsimp only
theorem loc_sliceAt (t : TypeId) (x : Value) (a b c : Option Value) : Loc (Instr.sliceAt t x a b c) := by
  unfold Instr.sliceAt
  repeat' first
    | exact Loc.pure _
    | exact loc_underlying _
    | exact loc_sizeOf _
    | exact loc_sureAddr _
    | exact loc_slice _ _ _ _ _
    | exact loc_sliceBounds _ _ _ _ _ _
    | exact (dead_stuck _).loc
    | refine Loc.bind ?_ fun _ => ?_
    | split
    | dsimp only
theorem loc_extract (v : Value) (i : Nat) : Loc (Instr.extract v i) := by
  unfold Instr.extract
  repeat' first
    | exact Loc.pure _
    | exact (dead_stuck _).loc
    | split
/-- It gives a value that does not depend on the world. -/
def LocV (x : Sem Next) : Prop := ∀ P w r w', x.run P w = .ok r w' → ∃ v, r = .value v ∧ ∀ w2, x.run P w2 = .ok (.value v) w2
/-- It gives a value and leaves the world as it is. -/
def StlV (x : Sem Next) : Prop := ∀ P w r w', x.run P w = .ok r w' → ∃ v, r = .value v ∧ w' = w
theorem LocV.stl {x : Sem Next} (h : LocV x) : StlV x := fun P w r w' e => by
  obtain ⟨v, h1, h2⟩ := h P w r w' e
  have := h2 w
  rw [e] at this; cases this
  exact ⟨v, h1, rfl⟩
theorem LocV.pure (v : Value) : LocV (Pure.pure (.value v) : Sem Next) := fun P w r w' e => by
  simp only [Sem.run_pure] at e; cases e; exact ⟨v, rfl, fun _ => rfl⟩
theorem LocV.bind {α : Type} {x : Sem α} {f : α → Sem Next} (h : Loc x) (k : ∀ a, LocV (f a)) : LocV (x >>= f) := fun P w r w' e => by
  obtain ⟨a, w1, h1, h2⟩ := bind_ok e
  obtain ⟨v, h3, h4⟩ := k a P w1 r w' h2
  exact ⟨v, h3, fun w2 => by rw [Sem.run_bind, h P w a w1 h1 w2]; exact h4 w2⟩
theorem StlV.bind {α : Type} {x : Sem α} {f : α → Sem Next} (h : Stl x) (k : ∀ a, StlV (f a)) : StlV (x >>= f) := fun P w r w' e => by
  obtain ⟨a, w1, h1, h2⟩ := bind_ok e
  have := h P w a w1 h1
  subst this
  exact k a P _ r w' h2
theorem Dead.locV {x : Sem Next} (h : Dead x) : LocV x := fun P w r w' e => absurd e (h P w r w')
/-- Operations that depend on nothing but their operands. -/
def localB (o : Oper) : Bool := match o.op with
  | .move _ | .assign _ | .pick _ _ _ | .indexAddr _ _ _ | .makeFunc _ _ _ | .nilCheck _ | .slice _ _ _ _ _ | .extract _ _ => true
  | _ => false
theorem loc_nilCheck (d : Option Nat) (x : Operand) (t : TypeId) (p : String) (a : Array Edge) (g : Option (Nat × Bool)) (ρ : Operand → Value) : LocV (execOp ρ ⟨d, .nilCheck x, t, p, a, g⟩) := by
  show LocV (match ρ x with
    | .pointer none | .nilIface | .nilFunc => runtimePanic .nilDeref
    | .func (.method name) first captured =>
      match (first[0]? : Option Value) with
      | some .nilIface => runtimePanic .nilDeref
      | some (.iface t w) => do
        if (← nilAhead ((← program).types.size + Made.depth) t w name) != some false then
          unsupported (.noEntry "op/nilCheck.the method's receiver behind this interface value is a nil pointer, or cannot be seen to be none, and the arguments act or may panic (ledger 612)")
        pure (.value (.func (.method name) first captured))
      | _ => pure (.value (.func (.method name) first captured))
    | x => pure (.value x) : Sem Next)
  repeat' first
    | exact LocV.pure _
    | exact loc_program
    | exact loc_nilAhead _ _ _ _
    | exact (dead_stuck _).locV
    | exact (dead_unsupported _).locV
    | exact (dead_unsupported _).loc
    | exact (dead_runtimePanic _).locV
    | refine LocV.bind ?_ fun _ => ?_
    | split
theorem localB_loc {o : Oper} (h : localB o = true) (ρ : Operand → Value) : LocV (execOp ρ o) := by
  obtain ⟨d, op, t, p, a, g⟩ := o
  cases op <;> try (cases h; done)
  case move x => exact LocV.pure _
  case assign x => exact LocV.pure _
  case pick x y z => exact LocV.bind (loc_asBool _) fun _ => LocV.pure _
  case indexAddr x y z => exact LocV.bind (loc_indexAt _ _ _) fun _ => LocV.pure _
  case makeFunc x y z => exact LocV.bind (Loc.pure _) fun _ => LocV.pure _
  case slice x y z u v => exact LocV.bind (loc_sliceAt _ _ _ _ _) fun _ => LocV.pure _
  case extract x y => exact LocV.bind (loc_extract _ _) fun _ => LocV.pure _
  case nilCheck x => exact loc_nilCheck _ _ _ _ _ _ _
theorem stl_load (a : Addr) (m : Mode) : Stl (load a m) := fun P w r w' e => by
  simp only [run_load] at e
  split at e
  · cases e; rfl
  · split at e
    · cases e; rfl
    · cases e
theorem stl_loadCellsFrom (a : Addr) : ∀ (n i : Nat) (acc : Array Value), Stl (loadCellsFrom a i n acc)
  | 0, _, _ => (Loc.pure _).stl
  | n + 1, i, _ => Stl.bind (stl_load _ _) fun _ => stl_loadCellsFrom a n (i + 1) _
theorem stl_loadVar (t : TypeId) (a : Addr) : Stl (loadVar t a) := by
  unfold loadVar loadCells
  refine Stl.bind (loc_isAgg t).stl fun b => ?_
  split
  · exact Stl.bind (loc_sizeOf t).stl fun _ => Stl.bind (stl_loadCellsFrom _ _ _ _) fun _ => (Loc.pure _).stl
  · exact stl_load _ _
theorem stl_getObj (r : Nat) : Stl (getObj r) := fun P w x w' e => by
  simp only [getObj, Sem.run] at e
  split at e <;> cases e <;> rfl
theorem stl_shape (r : Nat) : Stl (shape r) := fun P w x w' e => by
  rw [run_shape] at e
  cases e; rfl
theorem stl_noView (a : Addr) : Stl (noView a) := by
  unfold noView
  repeat' first
    | exact (Loc.pure _).stl
    | exact loc_program.stl
    | exact stl_getObj _
    | exact stl_shape _
    | exact (dead_stuck _).loc.stl
    | exact (dead_unsupported _).loc.stl
    | refine Stl.bind ?_ fun _ => ?_
    | split
    | dsimp only
theorem stl_byteOf (a : Addr) : Stl (byteOf a) := by
  unfold byteOf
  repeat' first
    | exact (Loc.pure _).stl
    | exact loc_program.stl
    | exact stl_noView _
    | exact stl_getObj _
    | exact stl_shape _
    | exact (dead_stuck _).loc.stl
    | exact (dead_unsupported _).loc.stl
    | refine Stl.bind ?_ fun _ => ?_
    | split
    | dsimp only
theorem stl_partAt (a : Addr) (o b : Nat) : Stl (partAt a o b) := by
  unfold partAt
  repeat' first
    | exact (Loc.pure _).stl
    | exact stl_byteOf _
    | refine Stl.bind ?_ fun _ => ?_
    | split
    | dsimp only
theorem stl_fieldAt (t : TypeId) (x : Value) (k : Nat) : Stl (Instr.fieldAt t x k) := by
  unfold Instr.fieldAt fieldPlace
  repeat' first
    | exact (Loc.pure _).stl
    | exact (loc_underlying _).stl
    | exact (loc_sizeOf _).stl
    | exact (loc_sureAddr _).stl
    | exact stl_partAt _ _ _
    | exact (dead_stuck _).loc.stl
    | refine Stl.bind ?_ fun _ => ?_
    | split
    | dsimp only
/-- Operations that only read. -/
def stillB (o : Oper) : Bool := localB o || match o.op with
  | .load _ _ | .fieldAddr _ _ _ => true
  | _ => false
theorem stillB_stl {o : Oper} (h : stillB o = true) (ρ : Operand → Value) : StlV (execOp ρ o) := by
  unfold stillB at h
  cases hl : localB o with
  | true => exact (localB_loc hl ρ).stl
  | false =>
    rw [hl, Bool.false_or] at h
    obtain ⟨d, op, t, p, a, g⟩ := o
    cases op <;> try (cases h; done)
    case load x y => exact StlV.bind (Stl.bind (loc_sureAddr _).stl fun _ => stl_loadVar _ _) fun _ => (LocV.pure _).stl
    case fieldAddr x y z => exact StlV.bind (stl_fieldAt _ _ _) fun _ => (LocV.pure _).stl
/-- Operations that cannot fail. -/
def sureB (o : Oper) : Bool := match o.op, o.guard with
  | .move _, none | .assign _, none => true
  | _, _ => false

section
variable {P : Program} {ops : Array Oper} {Q : Exit → Act → World → Prop} {K : Act → World → Prop} {a : Act} {w : World}
/-- It never lets out, nor panics. -/
structure Quits (Q : Exit → Act → World → Prop) : Prop where
  lets : ¬ LetsOut Q
  panic : ∀ c a w, ¬ Q (.panic c) a w
def noSel (o : Oper) : Bool := match o.op with | .select _ _ => false | _ => true
theorem noSel_spec {o : Oper} (h : noSel o = true) : ∀ cs b, o.op ≠ .select cs b := fun cs b e => by unfold noSel at h; rw [e] at h; cases h

/-- Does operation i wait for x, itself or through others? -/
def aheadT (ops : Array Oper) : Nat → Nat → Nat → Bool
  | 0, _, _ => false
  | n + 1, i, x => match ops[i]? with
    | some o => o.after.any fun e => Region.binds .any e && (e.on == x || aheadT ops n e.on x)
    | none => false
/-- What was listed has all that it waits for. -/
def ClosedL (ops : Array Oper) (listed : Array Bool) : Prop := ∀ (j : Nat) (o : Oper), listed.getD j false = true → ops[j]? = some o → ∀ e, e ∈ o.after → Region.binds .any e = true → listed.getD e.on false = true
theorem aheadT_no {ops : Array Oper} {listed : Array Bool} (hc : ClosedL ops listed) {x : Nat} (hx : listed.getD x false = false) : ∀ (n i : Nat), (∀ o, ops[i]? = some o → ∀ e, e ∈ o.after → Region.binds .any e = true → listed.getD e.on false = true) → aheadT ops n i x = false
  | 0, _, _ => rfl
  | n + 1, i, hi => by
    unfold aheadT
    cases ho : ops[i]? with
    | none => rfl
    | some o =>
      simp only
      cases hany : o.after.any (fun e => Region.binds .any e && (e.on == x || aheadT ops n e.on x)) with
      | false => rfl
      | true =>
        rw [Array.any_eq_true'] at hany
        obtain ⟨e, he, hb⟩ := hany
        simp only [Bool.and_eq_true, Bool.or_eq_true, beq_iff_eq] at hb
        have h1 := hi o ho e he hb.1
        rcases hb.2 with h2 | h2
        · rw [h2, hx] at h1; cases h1
        · rw [aheadT_no hc hx n e.on (fun o' ho' e' he' hb' => hc e.on o' h1 ho' e' he' hb')] at h2
          cases h2
theorem ClosedL.set {ops : Array Oper} {listed : Array Bool} {i : Nat} (hc : ClosedL ops listed) (hi : i ∈ Region.ready .any ops listed) : ClosedL ops (listed.setIfInBounds i true) := by
  obtain ⟨h1, o, ho, haft⟩ := mem_ready.1 hi
  intro j o' hj ho' e he hb
  by_cases eij : i = j
  · subst eij
    rw [ho] at ho'; cases ho'
    exact getD_set_true (haft e he hb)
  · rw [getD_set_ne false eij] at hj
    exact getD_set_true (hc j o' hj ho' e he hb)
theorem ClosedL.ready {ops : Array Oper} {listed : Array Bool} {i x : Nat} (hc : ClosedL ops listed) (hi : i ∈ Region.ready .any ops listed) (hx : listed.getD x false = false) (n : Nat) : aheadT ops n i x = false := by
  obtain ⟨h1, o, ho, haft⟩ := mem_ready.1 hi
  exact aheadT_no hc hx n i (fun o' ho' e he hb => by rw [ho] at ho'; cases ho'; exact haft e he hb)
theorem closed_start (ops : Array Oper) (k : Nat) : ClosedL ops (Array.replicate k false) := by
  intro j o hj
  rw [Array.getD_eq_getD_getElem?, Array.getElem?_replicate] at hj
  split at hj <;> simp at hj

/-- Two operations, of which the first stands ahead in the order that is followed: the second may run first all the same. -/
def pairB (ops : Array Oper) (x i : Nat) : Bool := match ops[x]?, ops[i]? with
  | some ox, some oi => aheadT ops ops.size i x || (ox.apart ops oi && noSel ox && noSel oi && ((stillB ox && stillB oi) || localB ox || sureB oi))
  | _, _ => false

theorem stl_wp {o : Oper} {i : Nat} (hi : ops[i]? = some o) (hs : stillB o = true) (hQ : Quits Q) (h : wpOp P ops Q i K a w) :
    ∃ v, ((Region.wanted o (yielded ops a.tmps) = true ∧ (execOp a.eval o).run P w = .ok (.value v) w) ∨ (Region.wanted o (yielded ops a.tmps) = false ∧ v = undef)) ∧ K (a.put o.dst v) w := by
  unfold wpOp at h
  simp only [hi] at h
  by_cases hw : Region.wanted o (yielded ops a.tmps) = true
  · rw [if_pos hw] at h
    rcases h with h | ⟨_, h⟩
    · unfold Oper.wp at h
      cases hr : (execOp a.eval o).run P w with
      | ok r w' =>
        rw [hr] at h
        obtain ⟨v, rfl, rfl⟩ := stillB_stl hs a.eval P w r w' hr
        exact ⟨v, .inl ⟨hw, rfl⟩, h⟩
      | halt e w' =>
        rw [hr] at h
        cases e <;> first | exact absurd h (hQ.panic _ _ _) | exact h.elim
    · exact absurd h hQ.lets
  · rw [if_neg hw] at h
    exact ⟨undef, .inr ⟨by simpa using hw, rfl⟩, h⟩
theorem wp_stl {o : Oper} {i : Nat} {v : Value} (hi : ops[i]? = some o) (h : (Region.wanted o (yielded ops a.tmps) = true ∧ (execOp a.eval o).run P w = .ok (.value v) w) ∨ (Region.wanted o (yielded ops a.tmps) = false ∧ v = undef))
    (hk : K (a.put o.dst v) w) : wpOp P ops Q i K a w := by
  unfold wpOp
  simp only [hi]
  rcases h with ⟨h1, h2⟩ | ⟨h1, rfl⟩
  · rw [if_pos h1]
    refine .inl ?_
    unfold Oper.wp
    rw [h2]; exact hk
  · rw [if_neg (by simp [h1])]; exact hk

theorem wpOp_back {j : Nat} {oi oj : Oper} {x : Operand} (hj : ops[j]? = some oj) (hap : oj.apart ops oi = true) (hx : ∀ d, oj.dst = some d → x ≠ .tmp d)
    (hsj : ∀ cs b, oj.op ≠ .select cs b) (hQ : Quits Q) (h : wpOp P ops Q j (fun a w => K (a.put oi.dst (a.eval x)) w) a w) : wpOp P ops Q j K (a.put oi.dst (a.eval x)) w := by
  obtain ⟨_, h2, h3⟩ := Oper.apart_spec hap
  have hc : ∀ (a : Act) u, (a.put oi.dst (a.eval x)).put oj.dst u = (a.put oj.dst u).put oi.dst ((a.put oj.dst u).eval x) := fun a u => by
    rw [Act.eval_put hx]; exact (Act.put_comm a u _ h2).symm
  unfold wpOp at *
  simp only [hj] at *
  rw [wanted_put oj a oi.dst _ h3]
  split
  · rename_i hw
    simp only [hw, if_true] at h
    rcases h with h | ⟨_, hlets⟩
    case inr => exact absurd hlets hQ.lets
    refine .inl ?_
    unfold Oper.wp at *
    rw [execOp_put oj hsj a oi.dst _ h3]
    generalize (execOp a.eval oj).run P w = r at *
    cases r with
    | ok n w' =>
      cases n <;> simp only [Oper.upon] at h ⊢
      case value u => rw [hc]; exact h
      case skip => rw [hc]; exact h
      case defer d =>
        rw [Act.put_defers]
        have e : a.eval x = ({ a with defers := d :: a.defers } : Act).eval x := by cases x <;> rfl
        rw [e, hc]; exact h
      case enter f args =>
        refine Calls.mono h fun e w'' he => ?_
        cases e with
        | returned u =>
          show K ((a.put oi.dst (a.eval x)).put oj.dst u) w''
          rw [hc]; exact he
        | panicked c => exact absurd he (hQ.panic _ _ _)
        | outgrown => exact he
      case row row args => exact Rows.mono h fun u w'' he => by rw [hc]; exact he
    | halt x w' =>
      cases x <;> simp only [Oper.upon] at h ⊢
      case panic u => exact absurd h (hQ.panic _ _ _)
  · rename_i hw
    simp only [hw] at h
    rw [hc]; exact h

theorem wpOp_swap {x i : Nat} (hp : pairB ops x i = true) (hn : aheadT ops ops.size i x = false) (hQ : Quits Q) (h : wpOp P ops Q x (wpOp P ops Q i K) a w) : wpOp P ops Q i (wpOp P ops Q x K) a w := by
  unfold pairB at hp
  split at hp
  case h_2 => cases hp
  rename_i ox oi hx hi
  rw [hn, Bool.false_or] at hp
  simp only [Bool.and_eq_true, Bool.or_eq_true] at hp
  obtain ⟨⟨⟨hap, sx⟩, si⟩, hcls⟩ := hp
  have sx := noSel_spec sx
  have si := noSel_spec si
  obtain ⟨p1, p2, p3⟩ := Oper.apart_spec hap
  have hpanic : ∀ c a w, Q (.panic c) (a.put ox.dst undef) w → Q (.panic c) a w := fun c a w h => absurd h (hQ.panic _ _ _)
  rcases hcls with (⟨c1, c2⟩ | c1) | c1
  · obtain ⟨v, h1, h2⟩ := stl_wp hx c1 hQ h
    obtain ⟨u, h3, h4⟩ := stl_wp hi c2 hQ h2
    rw [wanted_put oi a ox.dst v p1, execOp_put oi si a ox.dst v p1] at h3
    refine wp_stl hi h3 (wp_stl hx (v := v) ?_ ?_)
    · rw [wanted_put ox a oi.dst u p3, execOp_put ox sx a oi.dst u p3]; exact h1
    · rw [← Act.put_comm a v u p2]; exact h4
  · -- the first depends on nothing but its operands
    have hst : stillB ox = true := by unfold stillB; rw [c1]; rfl
    obtain ⟨v, h1, h2⟩ := stl_wp hx hst hQ h
    have hy : Yields P ops ox v a := by
      rcases h1 with ⟨hw, hr⟩ | ⟨hw, e⟩
      · obtain ⟨v', e, hr'⟩ := localB_loc c1 a.eval P w _ _ hr
        cases e
        exact .inl ⟨hw, hr'⟩
      · exact .inr ⟨hw, e⟩
    have h5 := wpOp_put hi hap sx si (fun c a w h => absurd h (hQ.panic _ _ _)) hy h2
    exact wpOp_mono (fun a w ⟨y, k⟩ => y.wpOp hx k) h5
  · -- the second cannot fail
    obtain ⟨d, op, t, p, af, g⟩ := oi
    have key : ∃ e, (∀ d', ox.dst = some d' → e ≠ .tmp d') ∧ ∀ (K : Act → World → Prop) (a : Act) (w : World), wpOp P ops Q i K a w ↔ K (a.put d (a.eval e)) w := by
      unfold sureB at c1
      split at c1
      case h_3 => cases c1
      all_goals
        rename_i e ho hg
        simp only at ho hg
        subst ho; subst hg
        refine ⟨e, fun d' hd' he => p1 d' hd' (by subst he; simp [Oper.looksAt, Op.operands]), fun K a w => ?_⟩
        unfold wpOp
        simp only [hi]
        rw [if_pos (by simp [Region.wanted])]
        constructor
        · rintro (h | ⟨_, h⟩)
          · exact h
          · exact absurd h hQ.lets
        · intro h; exact .inl h
    obtain ⟨e, he, key⟩ := key
    rw [key]
    refine wpOp_back (oi := ⟨d, op, t, p, af, g⟩) hx hap he sx hQ (wpOp_mono (fun a w h => ?_) h)
    exact (key K a w).1 h

/-- One operation is brought to the front. -/
theorem wpOps_front {i : Nat} {B : List Nat} (hQ : Quits Q) : ∀ (A : List Nat) (a : Act) (w : World), (∀ x, x ∈ A → pairB ops x i = true ∧ aheadT ops ops.size i x = false) →
    wpOps P ops Q (A ++ i :: B) a w → wpOp P ops Q i (wpOps P ops Q (A ++ B)) a w
  | [], a, w, _, h => by rw [List.nil_append, wpOps_cons] at h; exact h
  | x :: A, a, w, hA, h => by
    rw [List.cons_append, wpOps_cons] at h
    have h1 := wpOp_mono (fun a w h => wpOps_front hQ A a w (fun y hy => hA y (List.mem_cons_of_mem _ hy)) h) h
    have h2 := wpOp_swap (hA x (by simp)).1 (hA x (by simp)).2 hQ h1
    refine wpOp_mono (fun a w h => ?_) h2
    rw [List.cons_append, wpOps_cons]; exact h

/-- Each one in turn has all before it that it waits for. -/
def Topo (ops : Array Oper) : Array Bool → List Nat → Prop
  | _, [] => True
  | listed, i :: r => (∃ o, ops[i]? = some o ∧ ∀ e, e ∈ o.after → Region.binds .any e = true → listed.getD e.on false = true) ∧ Topo ops (listed.setIfInBounds i true) r
theorem set_comm' (l : Array Bool) (i j : Nat) : (l.setIfInBounds i true).setIfInBounds j true = (l.setIfInBounds j true).setIfInBounds i true := by
  by_cases h : i = j
  · rw [h]
  · exact Array.setIfInBounds_comm _ _ h
theorem Topo.drop {i : Nat} {B : List Nat} : ∀ (A : List Nat) (listed : Array Bool), Topo ops listed (A ++ i :: B) → Topo ops (listed.setIfInBounds i true) (A ++ B)
  | [], _, h => h.2
  | x :: A, listed, ⟨⟨o, h1, h2⟩, h3⟩ => by
    refine ⟨⟨o, h1, fun e he hb => getD_set_true (h2 e he hb)⟩, ?_⟩
    rw [set_comm']
    exact Topo.drop A _ h3

theorem wpAny_of_ops (hQ : Quits Q) : ∀ (n : Nat) (R : List Nat) (listed : Array Bool) (a : Act) (w : World), R.length = n → R.Nodup → (∀ i, i ∈ R → listed.getD i true = false ∧ listed.getD i false = false) → (∀ i, listed.getD i true = false → i ∈ R) →
    R.Pairwise (fun x i => pairB ops x i = true) → Topo ops listed R → ClosedL ops listed → wpOps P ops Q R a w → wpAny P .any ops Q n listed a w
  | 0, R, listed, a, w, hn, _, _, hall, _, _, _, h => by
    obtain rfl := List.eq_nil_of_length_eq_zero hn
    refine ⟨?_, h⟩
    cases hr : Region.ready .any ops listed with
    | nil => rfl
    | cons i r =>
      have hi : i ∈ Region.ready .any ops listed := by rw [hr]; simp
      have := hall i (mem_ready.1 hi).1
      simp at this
  | n + 1, R, listed, a, w, hn, hnd, hun, hall, hpw, htop, hcl, h => by
    refine ⟨fun hr => ?_, fun i hi => ?_⟩
    · exfalso
      match R, hn with
      | i :: r, _ =>
        obtain ⟨⟨o, h1, h2⟩, _⟩ := htop
        have : i ∈ Region.ready .any ops listed := mem_ready.2 ⟨(hun i (by simp)).1, o, h1, h2⟩
        rw [hr] at this; simp at this
    · obtain ⟨h1, o, ho, haft⟩ := mem_ready.1 hi
      obtain ⟨A, B, rfl⟩ := List.append_of_mem (hall i h1)
      have hA : ∀ x, x ∈ A → pairB ops x i = true ∧ aheadT ops ops.size i x = false := fun x hx =>
        ⟨(List.pairwise_append.1 hpw).2.2 x hx i (by simp), hcl.ready hi (hun x (by simp [hx])).2 _⟩
      refine wpOp_mono (fun a w h => ?_) (wpOps_front hQ A a w hA h)
      have hnd' := hnd
      rw [List.nodup_append] at hnd'
      obtain ⟨n1, n2, n3⟩ := hnd'
      rw [List.nodup_cons] at n2
      have hne : ∀ j, j ∈ A ++ B → i ≠ j := by
        intro j hj e
        subst e
        rcases List.mem_append.1 hj with h | h
        · exact n3 i h i (by simp) rfl
        · exact n2.1 h
      refine wpAny_of_ops hQ n (A ++ B) (listed.setIfInBounds i true) a w (by simp at hn ⊢; omega) ?_ ?_ ?_ ?_ (Topo.drop A _ htop) (hcl.set hi) h
      · rw [List.nodup_append]
        exact ⟨n1, n2.2, fun x hx y hy => n3 x hx y (by simp [hy])⟩
      · intro j hj
        rw [getD_set_ne true (hne j hj), getD_set_ne false (hne j hj)]
        exact hun j (by rcases List.mem_append.1 hj with h | h <;> simp [h])
      · intro j hj
        by_cases e : i = j
        · subst e
          exfalso
          have hlt : i < listed.size := by
            rcases Nat.lt_or_ge i listed.size with h' | h'
            · exact h'
            · simp [Array.getElem?_eq_none h'] at h1
          simp [hlt] at hj
        · rw [getD_set_ne true e] at hj
          have := hall j hj
          simp only [List.mem_append, List.mem_cons] at this ⊢
          rcases this with h | h | h
          · exact .inl h
          · exact absurd h.symm e
          · exact .inr h
      · exact List.Pairwise.sublist (by simp) hpw
end

/-- The check of an order. -/
def topoB (ops : Array Oper) : List Nat → List Nat → Bool
  | _, [] => true
  | done, i :: r => (match ops[i]? with | some o => o.after.all fun e => !Region.binds .any e || done.contains e.on | none => false) && topoB ops (i :: done) r
def orderB (ops : Array Oper) (ord : List Nat) : Bool :=
  decide ord.Nodup && decide (ord.length = ops.size) && (List.range ops.size).all (fun i => ord.contains i) && topoB ops [] ord && decide (ord.Pairwise fun x i => pairB ops x i = true)
theorem topoB_spec {ops : Array Oper} : ∀ (r done : List Nat) (listed : Array Bool), (∀ j, j ∈ done → listed.getD j false = true) → (∀ i, i ∈ r → i < listed.size) → topoB ops done r = true → Topo ops listed r
  | [], _, _, _, _, _ => trivial
  | i :: r, done, listed, hd, hsz, h => by
    unfold topoB at h
    simp only [Bool.and_eq_true] at h
    obtain ⟨h1, h2⟩ := h
    have hi := hsz i (by simp)
    refine ⟨?_, topoB_spec r (i :: done) _ ?_ (fun j hj => by simpa using hsz j (by simp [hj])) h2⟩
    · cases ho : ops[i]? with
      | none => rw [ho] at h1; cases h1
      | some o =>
        rw [ho] at h1
        simp only [Array.all_eq_true_iff_forall_mem, Bool.or_eq_true, Bool.not_eq_true', List.contains_iff_mem] at h1
        refine ⟨o, rfl, fun e he hb => hd e.on ?_⟩
        rcases h1 e he with h | h
        · rw [hb] at h; cases h
        · simpa using h
    · intro j hj
      rcases List.mem_cons.1 hj with rfl | hj
      · simp [hi]
      · exact getD_set_true (hd j hj)

section
variable {P : Program} {n : Nat} {Q : Post} {f : Fr} {s : St}
/-- Only an end without a jump. -/
def OnlyN (Q : Post) : Post := fun e f w => e = .normal ∧ Q .normal f w
theorem quits_onlyN : Quits (lift n (OnlyN Q)) := ⟨fun ⟨_, _, h⟩ => (by obtain ⟨_, _, h, _⟩ := h; cases h), fun _ _ _ h => (by obtain ⟨_, _, h, _⟩ := h; cases h)⟩
theorem wpOps_list {ops : Array Oper} {Q : Exit → Act → World → Prop} : ∀ (ord : List Nat) (l : List Oper), ord.mapM (fun i => ops[i]?) = some l → wpOps P ops Q ord = wpList P ops Q l
  | [], l, h => by simp at h; subst h; rfl
  | i :: r, l, h => by
    simp only [List.mapM_cons, Option.bind_eq_bind, Option.bind_eq_some_iff] at h
    obtain ⟨o, h1, l', h2, h3⟩ := h
    cases h3
    have ih := wpOps_list (Q := Q) r l' h2
    funext a w
    rw [wpOps_cons, ih]
    unfold wpOp
    rw [h1]
    rfl
/-- A region that draws its order: one order that is followed serves for all. -/
theorem W_seqd {id : Nat} {l l' : List Oper} (ord : List Nat) (hm : P.follows .mixedOrders = true) (hok : orderB l.toArray ord = true) (hl : ord.mapM (fun i => l.toArray[i]?) = some l')
    (h : L P n l.toArray (OnlyN Q) l' f s.drew.w) : W P n (.region id l.toArray true) Q f s.w := by
  refine W_mono (Q := OnlyN Q) ?_ (fun e f w ⟨h, k⟩ => h ▸ k)
  intro a ha
  refine wp_region_any hm ?_
  unfold orderB at hok
  simp only [Bool.and_eq_true, decide_eq_true_eq, List.all_eq_true, List.mem_range, List.contains_iff_mem] at hok
  obtain ⟨⟨⟨⟨h1, h2⟩, h3⟩, h4⟩, h5⟩ := hok
  have key : wpAny P .any l.toArray (lift n (OnlyN Q)) l.toArray.size (Array.replicate l.toArray.size false) a { s.w with drawn := s.w.drawn + 1 } := by
    have hlt : ∀ i, i ∈ ord → i < l.toArray.size := by
      intro i hi
      obtain ⟨o, ho⟩ : ∃ o, l.toArray[i]? = some o := by
        have : ∀ (ord : List Nat) (l' : List Oper), ord.mapM (fun i => l.toArray[i]?) = some l' → ∀ i, i ∈ ord → ∃ o, l.toArray[i]? = some o := by
          intro ord
          induction ord with
          | nil => intro l' _ i hi; simp at hi
          | cons x r ih =>
            intro l' h i hi
            simp only [List.mapM_cons, Option.bind_eq_bind, Option.bind_eq_some_iff] at h
            obtain ⟨o, h1, l'', h2, h3⟩ := h
            rcases List.mem_cons.1 hi with rfl | hi
            · exact ⟨o, h1⟩
            · exact ih l'' h2 i hi
        exact this ord l' hl i hi
      exact (Array.getElem?_eq_some_iff.1 ho).1
    refine wpAny_of_ops quits_onlyN _ ord _ a _ h2 h1 ?_ ?_ h5 (topoB_spec ord [] _ (by simp) (by simpa using hlt) h4) (closed_start _ _) ?_
    · intro i hi
      have := hlt i hi
      simp only [List.size_toArray] at this
      simp [this]
    · intro i hi
      rcases Nat.lt_or_ge i l.toArray.size with hlt | hge
      · exact h3 i hlt
      · simp only [List.size_toArray] at hge
        simp [Nat.not_lt.2 hge] at hi
    · rw [wpOps_list ord l' hl]; exact h a ha
  exact key
end
end Go.Arm
namespace Go.Arm
open Go Go.RowKit

section
variable {P : Program} {ops : Array Oper} {Q : Exit → Act → World → Prop} {K : Act → World → Prop} {a : Act} {w : World}
/-- As pairB, but for one pair. -/
def pairC (ops : Array Oper) (p q x i : Nat) : Bool := pairB ops x i || (x == p && i == q) || (x == q && i == p)

structure Rest (ops : Array Oper) (listed : Array Bool) (R : List Nat) : Prop where
  nd : R.Nodup
  un : ∀ i, i ∈ R → listed.getD i true = false ∧ listed.getD i false = false
  all : ∀ i, listed.getD i true = false → i ∈ R
  topo : Topo ops listed R
  cl : ClosedL ops listed
theorem Rest.drop {listed : Array Bool} {A B : List Nat} {i : Nat} (h : Rest ops listed (A ++ i :: B)) (hi : i ∈ Region.ready .any ops listed) : Rest ops (listed.setIfInBounds i true) (A ++ B) := by
  obtain ⟨hnd, hun, hall, htop, hcl⟩ := h
  have hnd' := hnd
  rw [List.nodup_append] at hnd'
  obtain ⟨n1, n2, n3⟩ := hnd'
  rw [List.nodup_cons] at n2
  have hne : ∀ j, j ∈ A ++ B → i ≠ j := by
    intro j hj e
    subst e
    rcases List.mem_append.1 hj with h | h
    · exact n3 i h i (by simp) rfl
    · exact n2.1 h
  have h1 := (hun i (by simp)).1
  refine ⟨?_, ?_, ?_, Topo.drop A _ htop, hcl.set hi⟩
  · rw [List.nodup_append]
    exact ⟨n1, n2.2, fun x hx y hy => n3 x hx y (by simp [hy])⟩
  · intro j hj
    rw [getD_set_ne true (hne j hj), getD_set_ne false (hne j hj)]
    exact hun j (by rcases List.mem_append.1 hj with h | h <;> simp [h])
  · intro j hj
    by_cases e : i = j
    · subst e
      exfalso
      have hlt : i < listed.size := by
        rcases Nat.lt_or_ge i listed.size with h' | h'
        · exact h'
        · simp [Array.getElem?_eq_none h'] at h1
      simp [hlt] at hj
    · rw [getD_set_ne true e] at hj
      have := hall j hj
      simp only [List.mem_append, List.mem_cons] at this ⊢
      rcases this with h | h | h
      · exact .inl h
      · exact absurd h.symm e
      · exact .inr h
theorem Rest.ready {listed : Array Bool} {A B : List Nat} {i : Nat} (h : Rest ops listed (A ++ i :: B)) (hi : i ∈ Region.ready .any ops listed) : ∀ x, x ∈ A → aheadT ops ops.size i x = false := fun x hx =>
  h.cl.ready hi (h.un x (by simp [hx])).2 _

/-- p stands before q in the list, if both are there. -/
def Before (p q : Nat) (R : List Nat) : Prop := ∀ A B, R = A ++ p :: B → q ∉ A
theorem Before.drop {p q i : Nat} {A B : List Nat} (h : Before p q (A ++ i :: B)) : Before p q (A ++ B) := by
  intro C D e hq
  rcases List.append_eq_append_iff.1 e with ⟨L, h1, h2⟩ | ⟨L, h1, h2⟩
  · -- C = A ++ L, B = L ++ p :: D
    refine h (A ++ i :: L) D (by rw [h2]; simp) ?_
    rw [h1] at hq
    simp only [List.mem_append, List.mem_cons] at hq ⊢
    rcases hq with h | h
    · exact .inl h
    · exact .inr (.inr h)
  · -- A = C ++ L, p :: D = L ++ B
    cases L with
    | nil =>
      simp only [List.append_nil] at h1
      simp only [List.nil_append] at h2
      refine h (A ++ [i]) D (by rw [← h2]; simp) ?_
      rw [h1]; simp [hq]
    | cons x L =>
      simp only [List.cons_append, List.cons.injEq] at h2
      obtain ⟨rfl, h2⟩ := h2
      exact h C (L ++ i :: B) (by rw [h1]; simp) hq

/-- What waits for neither of the two only reads. -/
def othersB (ops : Array Oper) (p q : Nat) : Bool := (List.range ops.size).all fun i => i == p || i == q || match ops[i]? with | some o => stillB o || aheadOf o p || aheadOf o q | none => true

end

def beforeB (p q : Nat) (R : List Nat) : Bool := match R with
  | [] => true
  | x :: r => x != q && (x == p || beforeB p q r)
/-- The check of two orders. -/
def orderC (ops : Array Oper) (p q : Nat) (ord : List Nat) : Bool :=
  decide ord.Nodup && decide (ord.length = ops.size) && (List.range ops.size).all (fun i => ord.contains i) && topoB ops [] ord && decide (ord.Pairwise fun x i => pairC ops p q x i = true) && beforeB p q ord

section
variable {P : Program} {n : Nat} {Q : Post} {f : Fr} {s : St}
end
end Go.Arm
namespace Go.Arm
open Go Go.RowKit

/-- In the block of the slice. -/
def inB (v : Value) (b : Nat) : Prop := ∃ a l c, v = .slice (some a) l c ∧ a.block = b
/-- A slice of bytes that reads as a list at this time. -/
def Rd (s : St) (v : Value) (xs : List U8) : Prop :=
  ∃ base cap, v = .slice base xs.length cap ∧ (xs ≠ [] → ∃ b o, base = some ⟨b, o, none⟩ ∧ b < s.w.heap.size ∧ ∀ i (h : i < xs.length), s.w.cell? ⟨b, o + i, none⟩ = some (.int .u8 xs[i].n))
/-- A pointer to a byte. -/
def CU (s : St) (q : Value) (y : U8) : Prop := ∃ b o, q = .pointer (some ⟨b, o, none⟩) ∧ s.w.cell? ⟨b, o, none⟩ = some (.int .u8 y.n)

section
variable {s s' s1 : St} {B : Nat} {E : TypeId} {v u : Value} {xs ys : List U8} {M : Nat → Prop}
theorem Rd.tch (h : Rd s v xs) (t : Tch M s s') (hn : xs ≠ [] → ∀ b, inB v b → ¬ M b) : Rd s' v xs := by
  obtain ⟨base, cap, rfl, h⟩ := h
  refine ⟨base, cap, rfl, fun hne => ?_⟩
  obtain ⟨b, o, rfl, hb, hc⟩ := h hne
  refine ⟨b, o, rfl, Nat.lt_of_lt_of_le hb t.size, fun i hi => ?_⟩
  have := hc i hi
  simp only [World.cell?] at this ⊢
  rw [t.block b hb (hn hne b ⟨_, _, _, rfl, rfl⟩)]
  exact this
theorem ArrS.unclaimed {α : Type} [Rep α] {zs : List α} (h : ArrS s B E v zs) {b : Nat} (hb : own v b) : s.g b = 0 := by
  rcases h with ⟨rfl, _⟩ | ⟨b', cap, C, rfl, _, _, hm, _⟩
  · cases hb
  · cases hb; exact hm.g
end

section
variable {P : Program} {n : Nat} {Q : Post} {f : Fr} {w : World} {ops : Array Oper} {rest : List Oper} {s : St}
variable {d : Nat} {ty : TypeId} {pos : String} {aft : Array Edge} {B : Nat} {E : TypeId} {v : Value} {xs : List U8} {j : Int} {y : U8}
end

section
variable {α : Type} [Rep α] {s : St} {B b k : Nat} {E : TypeId} {xs : List α}
end
section
variable {P : Program} {n : Nat} {Q : Post} {f : Fr} {w : World} {ops : Array Oper} {rest : List Oper} {s : St}
variable {d : Nat} {ty : TypeId} {pos : String} {aft : Array Edge} {α : Type} [Rep α] {B : Nat} {E : TypeId} {v : Value} {xs : List α} {j : Int} {y : α}
theorem fieldSet_all (hs : ∀ s cs (x : α), Rep.rel s cs x → cs.length = Rep.size α) : FieldSet (fun (_ z : α) => z) 0 := by
  intro s cs ks x y h1 h2
  have e1 := hs s cs x h1
  have e2 := hs s ks y h2
  refine ⟨?_, by omega⟩
  have : splice cs 0 ks = ks := by unfold splice; simp; omega
  rw [this]; exact h2
theorem L_storeS {sz0 : Nat} {T : TypeId} {x a : Operand} {u : Value} {z : α} (hT : Ty P T α) (ha : ev f a = elemP v j sz0 0) (hx : ev f x = u) (hV : V s u z) (hA : ArrS s B E v xs) (hy : idx xs j = some y) (hs : sz0 = Rep.size α)
    (h : ∀ s', Tch (own v) s s' → ArrS s' B E v (xs.set j.toNat z) → L P n ops Q rest f s'.w) :
    L P n ops Q (⟨none, .store T a x, ty, pos, aft, none⟩ :: rest) f s.w :=
  L_storeS_field hT (fieldSet_all (fun _ _ _ h => Rep.len h)) ha hx hV hA hy hs h
end

/-- A matrix of one's own: a slice of slices, all apart. -/
structure Mat (s : St) (B : Nat) (E E2 : TypeId) (v : Value) (vs : List RawV) (xss : List (List U8)) : Prop where
  outer : ArrS s B E2 v vs
  len : vs.length = xss.length
  each : ∀ (i : Nat) x xs, vs[i]? = some x → xss[i]? = some xs → ArrS s B E x.v xs
  dis : ∀ (i j : Nat) x y, i ≠ j → vs[i]? = some x → vs[j]? = some y → ∀ b, own x.v b → ¬ own y.v b
  apart : ∀ (i : Nat) x, vs[i]? = some x → ∀ b, own x.v b → ¬ own v b
def foot (v : Value) (vs : List RawV) (b : Nat) : Prop := own v b ∨ ∃ (i : Nat) (x : RawV), vs[i]? = some x ∧ own x.v b
section
variable {s s' s1 : St} {B : Nat} {E E2 : TypeId} {v u : Value} {vs : List RawV} {xss : List (List U8)} {xs ys : List U8} {x y : RawV} {M : Nat → Prop} {i j : Nat}
theorem Mat.tch (h : Mat s B E E2 v vs xss) (t : Tch M s s') (hn : ∀ b, foot v vs b → ¬ M b) : Mat s' B E E2 v vs xss :=
  ⟨h.outer.tch t (fun b hb => hn b (.inl hb)), h.len, fun i x xs h1 h2 => (h.each i x xs h1 h2).tch t (fun b hb => hn b (.inr ⟨i, x, h1, hb⟩)), h.dis, h.apart⟩
theorem Mat.ext (h : Mat s B E E2 v vs xss) (t : Ext s s') : Mat s' B E E2 v vs xss := h.tch t (fun _ _ x => x)
theorem Mat.at_ (h : Mat s B E E2 v vs xss) (hx : xss[i]? = some xs) : ∃ x, vs[i]? = some x ∧ ArrS s B E x.v xs := by
  obtain ⟨hlt, _⟩ := List.getElem?_eq_some_iff.1 hx
  have e : vs[i]? = some (vs[i]'(by rw [h.len]; exact hlt)) := List.getElem?_eq_getElem _
  exact ⟨_, e, h.each i _ xs e hx⟩
theorem Mat.lt (h : Mat s B E E2 v vs xss) {b : Nat} (hb : foot v vs b) : B ≤ b ∧ b < s.w.heap.size := by
  rcases hb with hb | ⟨i, x, hx, hb⟩
  · exact h.outer.lt hb
  · obtain ⟨hlt, _⟩ := List.getElem?_eq_some_iff.1 hx
    have e : xss[i]? = some (xss[i]'(by rw [← h.len]; exact hlt)) := List.getElem?_eq_getElem _
    exact (h.each i x _ hx e).lt hb
theorem Mat.g (h : Mat s B E E2 v vs xss) {b : Nat} (hb : foot v vs b) : s.g b = 0 := by
  rcases hb with hb | ⟨i, x, hx, hb⟩
  · exact h.outer.unclaimed hb
  · obtain ⟨hlt, _⟩ := List.getElem?_eq_some_iff.1 hx
    have e : xss[i]? = some (xss[i]'(by rw [← h.len]; exact hlt)) := List.getElem?_eq_getElem _
    exact (h.each i x _ hx e).unclaimed hb
/-- A row has been written. -/
theorem Mat.setRow (h : Mat s B E E2 v vs xss) (hx : vs[i]? = some x) (t : Tch (own x.v) s s') (ha : ArrS s' B E x.v ys) : Mat s' B E E2 v vs (xss.set i ys) := by
  refine ⟨h.outer.tch t (fun b hb hx' => h.apart i x hx b hx' hb), by simpa using h.len, fun j y zs h1 h2 => ?_, h.dis, h.apart⟩
  rw [List.getElem?_set] at h2
  by_cases e : i = j
  · subst e
    rw [hx] at h1; cases h1
    simp only [if_true] at h2
    split at h2
    · cases h2; exact ha
    · cases h2
  · rw [if_neg e] at h2
    exact (h.each j y zs h1 h2).tch t (fun b hb hx' => h.dis i j x y e hx h1 b hx' hb)
end

/-- How many cells a block has. -/
def fullOf (w : World) (b : Nat) : Nat := match w.heap[b]? with | some (.cells c _ _) => c.size | _ => 0
section
variable {α : Type} [Rep α] {s s1 : St} {B : Nat} {E E2 : TypeId} {v : Value} {xs : List α} {vs : List RawV} {xss : List (List U8)} {F : Nat → Prop}
theorem ArrS.asV (h : ArrS s B E v xs) (e : s1.w = s.w) (l : Le s s1) (hg : ∀ b, own v b → s1.g b = fullOf s.w b) : V s1 v xs := by
  rcases h with ⟨rfl, rfl⟩ | ⟨b, cap, C, rfl, hb, hc, hm, hl, hr⟩
  · exact Vnil
  · have hgb : s1.g b = C.length := by rw [hg b rfl]; unfold fullOf; rw [hm.heap]; simp
    refine Vslice rfl hc (fun _ => ⟨b, 0, rfl, RowAt.of_cells (cells := C.take (xs.length * Rep.size α)) ?_ (by simp; omega) (fun i hi => ?_)⟩)
    · intro j hj
      simp only [List.length_take] at hj
      rw [e, hgb, Nat.zero_add, hm.cell]
      refine ⟨?_, by omega⟩
      rw [List.getElem_take, List.getElem?_eq_getElem]
    · have hle : (i + 1) * Rep.size α ≤ xs.length * Rep.size α := Nat.mul_le_mul_right _ hi
      rw [Nat.succ_mul] at hle
      have hd : ((C.take (xs.length * Rep.size α)).drop (i * Rep.size α)).take (Rep.size α) = (C.drop (i * Rep.size α)).take (Rep.size α) := by
        apply List.ext_getElem?
        intro q
        simp only [List.getElem?_take, List.getElem?_drop]
        by_cases hq : q < Rep.size α
        · rw [if_pos hq, if_pos hq, if_pos (by omega)]
        · rw [if_neg hq, if_neg hq]
      rw [hd]
      exact Rep.mono l (hr i hi)
open Classical in
/-- The blocks of F are claimed. -/
noncomputable def St.claimF (s : St) (F : Nat → Prop) (hF : ∀ b, F b → b < s.w.heap.size) : St :=
  ⟨s.w, fun b => if F b then fullOf s.w b else s.g b, fun b hb => by
    show (if F b then fullOf s.w b else s.g b) = 0
    split
    · rename_i h; have := hF b h; omega
    · exact s.ok b hb⟩
open Classical in
theorem claimF_tch (hF : ∀ b, F b → b < s.w.heap.size) (hz : ∀ b, F b → s.g b = 0) : Tch F s (s.claimF F hF) := by
  refine ⟨rfl, rfl, rfl, Nat.le_refl _, fun _ _ _ => rfl, fun k _ hk => if_neg hk, le_of_blocks (fun _ _ => rfl) (fun k _ => ?_)⟩
  show s.g k ≤ if F k then fullOf s.w k else s.g k
  split
  · rename_i h; rw [hz k h]; exact Nat.zero_le _
  · exact Nat.le_refl _
theorem claimF_g (hF : ∀ b, F b → b < s.w.heap.size) {b : Nat} (h : F b) : (s.claimF F hF).g b = fullOf s.w b := if_pos h
/-- A matrix, claimed: it reads as lists. -/
theorem Mat.freeze (h : Mat s B E E2 v vs xss) : ∃ s1, s1.w = s.w ∧ Tch (foot v vs) s s1 ∧ V s1 v xss := by
  have hF : ∀ b, foot v vs b → b < s.w.heap.size := fun b hb => (h.lt hb).2
  have t := claimF_tch hF (fun b hb => h.g hb)
  refine ⟨s.claimF _ hF, rfl, t, ?_⟩
  have ho : V (s.claimF _ hF) v vs := h.outer.asV rfl t.le (fun b hb => claimF_g hF (.inl hb))
  have hin : ∀ (i : Nat) (hi : i < xss.length) (hi' : i < vs.length), V (s.claimF _ hF) vs[i].v xss[i] := fun i hi hi' => (h.each i _ _ (List.getElem?_eq_getElem hi') (List.getElem?_eq_getElem hi)).asV rfl t.le (fun b hb => claimF_g hF (.inr ⟨i, _, List.getElem?_eq_getElem hi', hb⟩))
  generalize s.claimF (foot v vs) hF = s1 at *
  obtain ⟨base, cap, e, hc, hr⟩ := ho.slice
  subst e
  refine Vslice h.len (by rw [← h.len]; exact hc) (fun hne => ?_)
  obtain ⟨b, o, e2, hrow⟩ := hr (fun e => hne (List.eq_nil_of_length_eq_zero (by rw [← h.len, e]; rfl)))
  refine ⟨b, o, e2, fun i hi => ?_⟩
  have hi' : i < vs.length := by rw [h.len]; exact hi
  obtain ⟨cs, ⟨h1, _⟩, h2⟩ := hrow i hi'
  refine ⟨cs, ?_, h2⟩
  have hv := hin i hi hi'
  rw [h1]
  exact hv.one rfl
end

section
variable {s s' : St} {B : Nat} {E E2 : TypeId} {v u vR vL : Value} {vs vsR vsL : List RawV} {xss R L : List (List U8)} {xs ys : List U8} {x y : RawV} {M : Nat → Prop} {i j : Nat}
/-- Two matrices of one's own. -/
structure Two (s : St) (B : Nat) (E E2 : TypeId) (vR : Value) (vsR : List RawV) (R : List (List U8)) (vL : Value) (vsL : List RawV) (L : List (List U8)) : Prop where
  r : Mat s B E E2 vR vsR R
  l : Mat s B E E2 vL vsL L
  d : ∀ b, foot vR vsR b → ¬ foot vL vsL b
theorem Two.tch (h : Two s B E E2 vR vsR R vL vsL L) (t : Tch M s s') (hR : ∀ b, foot vR vsR b → ¬ M b) (hL : ∀ b, foot vL vsL b → ¬ M b) : Two s' B E E2 vR vsR R vL vsL L :=
  ⟨h.r.tch t hR, h.l.tch t hL, h.d⟩
theorem Two.ext (h : Two s B E E2 vR vsR R vL vsL L) (t : Ext s s') : Two s' B E E2 vR vsR R vL vsL L := h.tch t (fun _ _ x => x) (fun _ _ x => x)
theorem Two.row (h : Two s B E E2 vR vsR R vL vsL L) (hx : vsR[i]? = some x) (t : Tch (own x.v) s s') (ha : ArrS s' B E x.v ys) : Two s' B E E2 vR vsR (R.set i ys) vL vsL L :=
  ⟨h.r.setRow hx t ha, h.l.tch t (fun b hb hx' => h.d b (.inr ⟨i, x, hx, hx'⟩) hb), h.d⟩
end
end Go.Arm
namespace Go.Arm
open Go Go.RowKit

section
variable {α : Type} [Rep α] {s s' sa : St} {B : Nat} {E : TypeId} {v : Value} {xs : List α}
open Classical in
/-- The blocks of F are claimed no more. -/
noncomputable def St.freeF (s : St) (F : Nat → Prop) : St :=
  ⟨s.w, fun b => if F b then 0 else s.g b, fun b hb => by
    show (if F b then 0 else s.g b) = 0
    split
    · rfl
    · exact s.ok b hb⟩
end

/-- A matrix whose outer slice grows. -/
structure GMat (s : St) (B : Nat) (E E2 : TypeId) (v : Value) (vs : List RawV) (xss : List (List U8)) : Prop where
  outer : Bld s B E2 v vs
  len : vs.length = xss.length
  each : ∀ (i : Nat) x xs, vs[i]? = some x → xss[i]? = some xs → ArrS s B E x.v xs
  dis : ∀ (i j : Nat) x y, i ≠ j → vs[i]? = some x → vs[j]? = some y → ∀ b, own x.v b → ¬ own y.v b
  apart : ∀ (i : Nat) x, vs[i]? = some x → ∀ b, own x.v b → ¬ own v b
section
variable {s s' s1 : St} {B : Nat} {E E2 : TypeId} {v v' u vR vL : Value} {vs vsR vsL : List RawV} {xss R L : List (List U8)} {xs ys : List U8} {x y : RawV} {M : Nat → Prop} {i j : Nat}
theorem GMat.nil : GMat s B E E2 (.slice none 0 0) [] [] :=
  ⟨Bld.nil, rfl, fun i x xs h => by simp at h, fun i j x y _ h => by simp at h, fun i x h => by simp at h⟩
theorem GMat.tch (h : GMat s B E E2 v vs xss) (t : Tch M s s') (hn : ∀ b, foot v vs b → ¬ M b) : GMat s' B E E2 v vs xss :=
  ⟨h.outer.tch t (fun b hb => hn b (.inl hb)), h.len, fun i x xs h1 h2 => (h.each i x xs h1 h2).tch t (fun b hb => hn b (.inr ⟨i, x, h1, hb⟩)), h.dis, h.apart⟩
theorem GMat.ext (h : GMat s B E E2 v vs xss) (t : Ext s s') : GMat s' B E E2 v vs xss := h.tch t (fun _ _ x => x)
theorem GMat.row (h : GMat s B E E2 v vs xss) (hx : vs[i]? = some x) : ∃ xs : List U8, ArrS s B E x.v xs := by
  obtain ⟨hlt, _⟩ := List.getElem?_eq_some_iff.1 hx
  have e : xss[i]? = some (xss[i]'(by rw [← h.len]; exact hlt)) := List.getElem?_eq_getElem _
  exact ⟨_, h.each i x _ hx e⟩
theorem GMat.lt (h : GMat s B E E2 v vs xss) {b : Nat} (hb : foot v vs b) : B ≤ b ∧ b < s.w.heap.size := by
  rcases hb with hb | ⟨i, x, hx, hb⟩
  · exact h.outer.lt hb
  · obtain ⟨_, h1⟩ := h.row hx
    exact h1.lt hb
end
end Go.Arm
namespace Go.Arm
open Go Go.RowKit

/-- No fence; in a round of a loop or not. -/
def fenceAt (ro : Option Nat) : Fence := { Fence.wide with round := ro }
/-- An operation that is no defer statement. -/
def noDefer (o : Oper) : Bool := match o.op with | .defer _ => false | _ => true
/-- The same activation, with more deferred behind what it has. -/
def sh (D : List Deferred) (a : Act) : Act := { a with defers := a.defers ++ D }
section
variable {P : Program} {n : Nat} {f : Fr} {w : World} {ro : Option Nat} {m : Nat} {D : List Deferred} {ops : Array Oper}

/-- What code in a round, or behind a loop, must achieve. -/
def up (D : List Deferred) (n : Nat) (Q : Post) : Exit → Act → World → Prop := fun e a' w => ∃ a f, a' = sh D a ∧ Fits n f a ∧ Q e f w
def WR (ro : Option Nat) (D : List Deferred) (P : Program) (n : Nat) (c : Code) (Q : Post) (f : Fr) (w : World) : Prop := ∀ a, Fits n f a → c.wpIn (fenceAt ro) 0 P (up D n Q) (sh D a) w
variable {Q : Post}
variable {s : St}
/-! The loop. -/
/-- What lies when the range function is called: the block for deferred calls, the loop's record. -/
def loopOf (fn : FuncId) (tmps : Array Value) (ps : Array Tmp) (asg body : Code) (d : Nat) : Loop := { state := .ready, pending := none, fn, tmps, params := ps, assign := asg, body, defers := d }
def St.looped (s : St) (r : Loop) : St := (s.new (.deferred (some [])) 0).new (.loop r) 0
/-! A function that holds such a loop. -/
/-- Code that is left as the function's contract says. -/
def WT (P : Program) (n : Nat) (c : Code) (Qt : Exit → Act → World → Prop) (f : Fr) (w : World) : Prop := ∀ a, Fits n f a → c.wpIn (fenceAt none) 0 P Qt a w
variable {Qt : Exit → Act → World → Prop}
/-- The mark that the loop leaves. -/
def markOf (d : Nat) : Deferred := { target := .collected d, args := #[] }
def DoneM (P : Program) (n : Nat) (fn : Func) (R : Ending → World → Prop) (d : Nat) : Post := fun e f w => w.heap[d]? = some (.deferred (some [])) ∧ Done P n fn R e f (w.putObj d (.deferred none))
/-- A block of the call's own that becomes another object. -/
def St.putO (s : St) (b : Nat) (o : Obj) : St := ⟨s.w.putObj b o, s.g, fun k hk => s.ok k (by simpa using hk)⟩
end
end Go.Arm
namespace Go.Arm
open Go Go.RowKit

/-- An array's end, which may be empty. -/
def EndP (b len sz lo : Nat) (v : Value) : Prop := ∃ so c, v = .slice so (len - lo) c ∧ (lo < len → so = some ⟨b, lo * sz, none⟩)
section
variable {P : Program} {n : Nat} {Q : Post} {f : Fr} {w : World} {ops : Array Oper} {rest : List Oper} {s : St}
variable {d : Nat} {ty : TypeId} {pos : String} {aft : Array Edge} {α : Type} [Rep α]
end
section
variable {P : Program} {n : Nat} {Q : Post} {f : Fr} {w : World} {s : St} {ro : Option Nat} {D : List Deferred}
theorem Bld.heap {α : Type} [Rep α] {B b : Nat} {E : TypeId} {v : Value} {xs : List α} (h : Bld s B E v xs) (hb : own v b) : ∃ cur, s.w.heap[b]? = some (.cells cur E (0, 0)) := by
  rcases h with ⟨rfl, rfl⟩ | ⟨b', cap, cur, rfl, _, hh, _⟩
  · cases hb
  · cases hb; exact ⟨cur, hh⟩
/-! A drawn region, taken step by step: at each step whatever is ready may come. -/
def AN (P : Program) (n : Nat) (ops : Array Oper) (Q : Post) (fuel : Nat) (listed : Array Bool) (f : Fr) (w : World) : Prop := ∀ a, Fits n f a → wpAny P .any ops (lift n Q) fuel listed a w
theorem op_of_L {ops : Array Oper} {o : Oper} {K : Act → World → Prop} {Q' : Exit → Act → World → Prop} (hg : o.guard = none) (h : L P n ops (fun e f w => e = .normal ∧ ∀ a, Fits n f a → K a w) [o] f w) : ∀ a, Fits n f a → o.wp P a w K Q' := by
  intro a ha
  have h := h a ha
  unfold wpList at h
  rw [if_pos (by simp [Region.wanted, hg])] at h
  rcases h with h | ⟨_, a', w', f', _, h, _⟩
  · unfold Oper.wp at h ⊢
    cases hr : (execOp a.eval o).run P w with
    | ok x w1 =>
      rw [hr] at h
      cases x with
      | value v => obtain ⟨f, hf, _, q⟩ := h; exact q _ hf
      | skip => obtain ⟨f, hf, _, q⟩ := h; exact q _ hf
      | defer d => obtain ⟨f, hf, _, q⟩ := h; exact q _ hf
      | enter g args =>
        refine Calls.mono h ?_
        intro e w2 he
        cases e with
        | returned v => obtain ⟨f, hf, _, q⟩ := he; exact q _ hf
        | panicked c => obtain ⟨f, hf, q, _⟩ := he; cases q
        | outgrown => obtain ⟨a', w', f, hf, q, _⟩ := he; cases q
      | row row args => exact Rows.mono h fun v w2 ⟨f, hf, _, q⟩ => q _ hf
      | _ => exact h.elim
    | halt c w1 =>
      rw [hr] at h
      cases c with
      | panic v => obtain ⟨f, hf, q, _⟩ := h; cases q
      | _ => exact h.elim
  · cases h
theorem AN_one {ops : Array Oper} {fuel : Nat} {listed : Array Bool} {o : Oper} (i : Nat) (hr : Region.ready .any ops listed = [i]) (ho : ops[i]? = some o) (hg : o.guard = none)
    (h : L P n ops (fun e f w => e = .normal ∧ AN P n ops Q fuel (listed.setIfInBounds i true) f w) [o] f w) : AN P n ops Q (fuel + 1) listed f w := by
  intro a ha
  refine ⟨(fun e => by rw [hr] at e; cases e), fun j hj => ?_⟩
  rw [hr, List.mem_singleton] at hj
  subst hj
  unfold wpOp
  rw [ho]
  dsimp only
  rw [if_pos (by simp [Region.wanted, hg])]
  exact .inl (op_of_L hg h a ha)
theorem AN_two {ops : Array Oper} {fuel : Nat} {listed : Array Bool} {o o' : Oper} (i i' : Nat) (hr : Region.ready .any ops listed = [i, i']) (ho : ops[i]? = some o) (ho' : ops[i']? = some o') (hg : o.guard = none) (hg' : o'.guard = none)
    (h : L P n ops (fun e f w => e = .normal ∧ AN P n ops Q fuel (listed.setIfInBounds i true) f w) [o] f w) (h' : L P n ops (fun e f w => e = .normal ∧ AN P n ops Q fuel (listed.setIfInBounds i' true) f w) [o'] f w) : AN P n ops Q (fuel + 1) listed f w := by
  intro a ha
  refine ⟨(fun e => by rw [hr] at e; cases e), fun j hj => ?_⟩
  rw [hr, List.mem_cons, List.mem_singleton] at hj
  unfold wpOp
  rcases hj with rfl | rfl
  · rw [ho]
    dsimp only
    rw [if_pos (by simp [Region.wanted, hg])]
    exact .inl (op_of_L hg h a ha)
  · rw [ho']
    dsimp only
    rw [if_pos (by simp [Region.wanted, hg'])]
    exact .inl (op_of_L hg' h' a ha)
theorem AN_done {ops : Array Oper} {fuel : Nat} {listed : Array Bool} (hr : Region.ready .any ops listed = []) (h : Q .normal f w) : AN P n ops Q fuel listed f w := by
  intro a ha
  cases fuel with
  | zero => exact ⟨hr, f, ha, h⟩
  | succ m => exact ⟨fun _ => ⟨f, ha, h⟩, fun j hj => by rw [hr] at hj; cases hj⟩
theorem W_any {id : Nat} {l : List Oper} (hm : P.follows .mixedOrders = true) (h : AN P n l.toArray (OnlyN Q) l.toArray.size (Array.replicate l.toArray.size false) f s.drew.w) : W P n (.region id l.toArray true) Q f s.w := by
  refine W_mono (Q := OnlyN Q) ?_ (fun e f w ⟨h, k⟩ => h ▸ k)
  intro a ha
  exact wp_region_any hm (h a ha)
end
/-! Claims on one block are given up: what lies elsewhere is read as before. -/
section
variable {s s0 sA sF : St} {b : Nat}
end
end Go.Arm
