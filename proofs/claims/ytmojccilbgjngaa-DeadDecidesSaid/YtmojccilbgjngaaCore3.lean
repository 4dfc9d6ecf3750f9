/- One rule for each kind of operation. -/
import Derived.Test.YtmojccilbgjngaaCore2
namespace Go.Arm
open Go Go.RowKit

def aggDesc : TypeDesc → Bool
 | .struct _ | .array _ _ => true
 | _ => false

structure Ty (P : Program) (T : TypeId) (α : Type) [Rep α] : Prop where
 und : (P.underlying T).map aggDesc = some (Rep.agg α)
 inf : (P.info? T).map (·.size) = some (Rep.size α)

structure TyZ (P : Program) (T : TypeId) (α : Type) [Rep α] (bytes : Nat) (z : Value) : Prop where
 ty : Ty P T α
 info : (P.info? T).map (fun i => (i.zero, i.size, i.bytes)) = some (some z, Rep.size α, bytes)
 zs : z.cells.size = Rep.size α
 pos : 0 < Rep.size α

section
variable {P : Program} {n : Nat} {Q : Post} {f : Fr} {w : World} {ops : Array Oper} {rest : List Oper} {s : St}
variable {d : Nat} {ty : TypeId} {pos : String} {aft : Array Edge}

theorem run_isAgg {T : TypeId} {α : Type} [Rep α] (h : Ty P T α) : (isAgg T).run P w = .ok (Rep.agg α) w := by
 obtain ⟨dd, h1, h2⟩ := Option.map_eq_some_iff.1 h.und
 unfold isAgg
 simp only [Sem.run_bind, run_underlying h1, Result.andThen_ok]
 cases dd <;> simp_all [aggDesc]

theorem run_sizeOf {T : TypeId} {k : Nat} (h : (P.info? T).map (·.size) = some k) : (sizeOf T).run P w = .ok k w := by
 obtain ⟨i, h1, h2⟩ := Option.map_eq_some_iff.1 h
 simp [sizeOf, typeInfo, h1, h2]

theorem L_move {x : Operand} {v : Value} (hv : ev f x = v) (hd : d < n) (h : L P n ops Q rest (upd f d v) w) :
  L P n ops Q (⟨some d, .move x, ty, pos, aft, none⟩ :: rest) f w :=
 L_val (v := v) rfl (fun k e => by cases e; exact hd) (by simp [execOp, hv]) h

theorem L_assign {x : Operand} {v : Value} (hv : ev f x = v) (hd : d < n) (h : L P n ops Q rest (upd f d v) w) :
  L P n ops Q (⟨some d, .assign x, ty, pos, aft, none⟩ :: rest) f w :=
 L_val (v := v) rfl (fun k e => by cases e; exact hd) (by simp [execOp, hv]) h

def inR (x : Int) : Prop := -9223372036854775808 ≤ x ∧ x ≤ 9223372036854775807
instance (x : Int) : Decidable (inR x) := by unfold inR; infer_instance

theorem wrap_in {x : Int} (h : inR x) : IntKind.i64.wrap x = x := by
 unfold inR at h
 rw [IntKind.wrap_i64]; omega

theorem L_add {T T' : TypeId} {x y : Operand} {a b : Int} (hx : ev f x = .int .i64 a) (hy : ev f y = .int .i64 b) (hr : inR (a + b)) (hd : d < n)
  (h : L P n ops Q rest (upd f d (.int .i64 (a + b))) w) : L P n ops Q (⟨some d, .binOp .add T x y T', ty, pos, aft, none⟩ :: rest) f w :=
 L_val (v := .int .i64 (a + b)) rfl (fun k e => by cases e; exact hd) (by simp [execOp, hx, hy, eqGuard, binOp, Op.intArith, wrap_in hr]) h

theorem L_sub {T T' : TypeId} {x y : Operand} {a b : Int} (hx : ev f x = .int .i64 a) (hy : ev f y = .int .i64 b) (hr : inR (a - b)) (hd : d < n)
  (h : L P n ops Q rest (upd f d (.int .i64 (a - b))) w) : L P n ops Q (⟨some d, .binOp .sub T x y T', ty, pos, aft, none⟩ :: rest) f w :=
 L_val (v := .int .i64 (a - b)) rfl (fun k e => by cases e; exact hd) (by simp [execOp, hx, hy, eqGuard, binOp, Op.intArith, wrap_in hr]) h

theorem L_quo {T T' : TypeId} {x y : Operand} {a b : Int} (hx : ev f x = .int .i64 a) (hy : ev f y = .int .i64 b) (h0 : b ≠ 0) (hr : inR (a.tdiv b)) (hd : d < n)
  (h : L P n ops Q rest (upd f d (.int .i64 (a.tdiv b))) w) : L P n ops Q (⟨some d, .binOp .quo T x y T', ty, pos, aft, none⟩ :: rest) f w :=
 L_val (v := .int .i64 (a.tdiv b)) rfl (fun k e => by cases e; exact hd) (by simp [execOp, hx, hy, eqGuard, binOp, Op.intDiv, h0, wrap_in hr]) h

theorem L_lss {T T' : TypeId} {x y : Operand} {k : IntKind} {a b : Int} (hx : ev f x = .int k a) (hy : ev f y = .int k b) (hd : d < n)
  (h : L P n ops Q rest (upd f d (.bool (decide (a < b)))) w) : L P n ops Q (⟨some d, .binOp .lss T x y T', ty, pos, aft, none⟩ :: rest) f w :=
 L_val (v := .bool (decide (a < b))) rfl (fun k e => by cases e; exact hd) (by simp [execOp, hx, hy, eqGuard, binOp, Op.intCmp]) h

theorem L_leq {T T' : TypeId} {x y : Operand} {k : IntKind} {a b : Int} (hx : ev f x = .int k a) (hy : ev f y = .int k b) (hd : d < n)
  (h : L P n ops Q rest (upd f d (.bool (decide (a ≤ b)))) w) : L P n ops Q (⟨some d, .binOp .leq T x y T', ty, pos, aft, none⟩ :: rest) f w :=
 L_val (v := .bool (decide (a ≤ b))) rfl (fun k e => by cases e; exact hd) (by simp [execOp, hx, hy, eqGuard, binOp, Op.intCmp]) h

theorem L_gtr {T T' : TypeId} {x y : Operand} {k : IntKind} {a b : Int} (hx : ev f x = .int k a) (hy : ev f y = .int k b) (hd : d < n)
  (h : L P n ops Q rest (upd f d (.bool (decide (b < a)))) w) : L P n ops Q (⟨some d, .binOp .gtr T x y T', ty, pos, aft, none⟩ :: rest) f w :=
 L_val (v := .bool (decide (b < a))) rfl (fun k e => by cases e; exact hd) (by simp [execOp, hx, hy, eqGuard, binOp, Op.intCmp]) h

theorem L_geq {T T' : TypeId} {x y : Operand} {k : IntKind} {a b : Int} (hx : ev f x = .int k a) (hy : ev f y = .int k b) (hd : d < n)
  (h : L P n ops Q rest (upd f d (.bool (decide (b ≤ a)))) w) : L P n ops Q (⟨some d, .binOp .geq T x y T', ty, pos, aft, none⟩ :: rest) f w :=
 L_val (v := .bool (decide (b ≤ a))) rfl (fun k e => by cases e; exact hd) (by simp [execOp, hx, hy, eqGuard, binOp, Op.intCmp]) h

theorem L_eql {T T' : TypeId} {x y : Operand} {k : IntKind} {a b : Int} (hx : ev f x = .int k a) (hy : ev f y = .int k b) (hd : d < n)
  (h : L P n ops Q rest (upd f d (.bool (decide (a = b)))) w) : L P n ops Q (⟨some d, .binOp .eql T x y T', ty, pos, aft, none⟩ :: rest) f w :=
 L_val (v := .bool (decide (a = b))) rfl (fun k e => by cases e; exact hd) (by simp [execOp, hx, hy, eqGuard, binOp, Op.intCmp]; rfl) h

theorem L_neq {T T' : TypeId} {x y : Operand} {k : IntKind} {a b : Int} (hx : ev f x = .int k a) (hy : ev f y = .int k b) (hd : d < n)
  (h : L P n ops Q rest (upd f d (.bool (!decide (a = b)))) w) : L P n ops Q (⟨some d, .binOp .neq T x y T', ty, pos, aft, none⟩ :: rest) f w :=
 L_val (v := .bool (!decide (a = b))) rfl (fun k e => by cases e; exact hd) (by simp [execOp, hx, hy, eqGuard, binOp, Op.intCmp, bne]; rfl) h

theorem L_not {T : TypeId} {x : Operand} {b : Bool} (hx : ev f x = .bool b) (hd : d < n)
  (h : L P n ops Q rest (upd f d (.bool (!b))) w) : L P n ops Q (⟨some d, .unOp .not T x, ty, pos, aft, none⟩ :: rest) f w :=
 L_val (v := .bool (!b)) rfl (fun k e => by cases e; exact hd) (by simp [execOp, hx, Op.unary]) h

theorem L_pick {c x y : Operand} {b : Bool} {v : Value} (hc : ev f c = .bool b) (hv : (if b then ev f x else ev f y) = v) (hd : d < n)
  (h : L P n ops Q rest (upd f d v) w) : L P n ops Q (⟨some d, .pick c x y, ty, pos, aft, none⟩ :: rest) f w :=
 L_val (v := v) rfl (fun k e => by cases e; exact hd) (by simp [execOp, hc, asBool, ← hv]) h

theorem L_len {α : Type} [Rep α] {T : TypeId} {x : Operand} {v : Value} {xs : List α} {E : TypeId} (hT : P.underlying T = some (.slice E)) (hx : ev f x = v) (hV : V s v xs) (hd : d < n)
  (h : L P n ops Q rest (upd f d (.int .i64 xs.length)) w) :
  L P n ops Q (⟨some d, .call ⟨.builtin .len, #[x], #[T]⟩, ty, pos, aft, none⟩ :: rest) f w := by
 obtain ⟨base, cap, rfl, _⟩ := hV.slice
 refine L_val (v := .int .i64 xs.length) rfl (fun k e => by cases e; exact hd) ?_ h
 simp [execOp, resolve, invoke, builtin, Builtin.len_, hx, run_underlying hT, goInt]

theorem L_extract {x : Operand} {k : Nat} {vs : Array Value} {v : Value} (hx : ev f x = .tuple vs) (hv : vs[k]? = some v) (hd : d < n)
  (h : L P n ops Q rest (upd f d v) w) : L P n ops Q (⟨some d, .extract x k, ty, pos, aft, none⟩ :: rest) f w :=
 L_val (v := v) rfl (fun k e => by cases e; exact hd) (by simp [execOp, Instr.extract, hx, hv]) h

theorem Addr.add_eq (b o k : Nat) : (⟨b, o, none⟩ : Addr).add k = ⟨b, o + k, none⟩ := by
 unfold Addr.add; split <;> simp_all

theorem L_index {α : Type} [Rep α] {T E : TypeId} {x i : Operand} {v : Value} {xs : List α} {k : IntKind} {j : Int} {y : α}
  (hT : P.underlying T = some (.slice E)) (hE : (P.info? E).map (·.size) = some (Rep.size α)) (hx : ev f x = v) (hV : V s v xs) (hi : ev f i = .int k j)
  (hy : idx xs j = some y) (hd : d < n) (h : ∀ p, Ptr s p y → L P n ops Q rest (upd f d p) w) :
  L P n ops Q (⟨some d, .indexAddr T x i, ty, pos, aft, none⟩ :: rest) f w := by
 obtain ⟨h0, h1, h2⟩ := idx_some hy
 obtain ⟨base, cap, rfl, hc, hr⟩ := hV.slice
 obtain ⟨hlt, he⟩ := List.getElem?_eq_some_iff.1 h2
 obtain ⟨b, o, rfl, hrow⟩ := hr (by intro e; subst e; simp at hlt)
 obtain ⟨cs, hrel, hat⟩ := hrow _ hlt
 rw [he] at hrel
 refine L_val (v := .pointer (some ⟨b, o + j.toNat * Rep.size α, none⟩)) rfl (fun k e => by cases e; exact hd) ?_ (h _ ⟨b, _, cs, rfl, hrel, hat⟩)
 simp [execOp, Instr.indexAt, hx, hi, asIntOf, run_underlying hT, h0, h1, run_sizeOf hE, Addr.add_eq]

theorem run_load_ro {α : Type} [Rep α] {T : TypeId} {b o : Nat} {cs : List Value} {x : α} (hT : Ty P T α) (hrel : Rep.rel s cs x) (hat : AtRO s b o cs) :
  (loadVar T ⟨b, o, none⟩).run P s.w = .ok (pack (Rep.agg α) cs) s.w := by
 unfold loadVar
 simp only [Sem.run_bind, run_isAgg hT, Result.andThen_ok]
 have hl := Rep.len hrel
 cases ha : Rep.agg α with
 | true =>
  simp only [if_true, Sem.run_bind, run_sizeOf hT.inf, Result.andThen_ok]
  rw [← hl, run_loadCells_list (cs := cs) (h := fun j v hj => by
   obtain ⟨h1, h2⟩ := List.getElem?_eq_some_iff.1 hj
   rw [Addr.add_eq, (hat j h1).1, h2])]
  simp [pack]
 | false =>
  rw [Rep.single ha] at hl
  match cs, hl with
  | [c], _ =>
   have := (hat 0 (by simp)).1
   simp only [Nat.add_zero, List.getElem_cons_zero] at this
   simp [this, pack]

theorem L_load {α : Type} [Rep α] {T : TypeId} {x : Operand} {p : Value} {y : α} (hT : Ty P T α) (hx : ev f x = p) (hP : Ptr s p y) (hd : d < n)
  (h : ∀ v, V s v y → L P n ops Q rest (upd f d v) s.w) : L P n ops Q (⟨some d, .load T x, ty, pos, aft, none⟩ :: rest) f s.w := by
 obtain ⟨b, o, cs, rfl, hrel, hat⟩ := hP
 refine L_val (v := pack (Rep.agg α) cs) rfl (fun k e => by cases e; exact hd) ?_ (h _ ⟨cs, hrel, rfl⟩)
 simp [execOp, Instr.loadAt, Instr.sureAddr, hx, run_load_ro hT hrel hat]

theorem L_load_int {T : TypeId} {x : Operand} {p : Value} {y : Int} (hT : Ty P T Int) (hx : ev f x = p) (hP : Ptr s p y) (hd : d < n)
  (h : L P n ops Q rest (upd f d (.int .i64 y)) s.w) : L P n ops Q (⟨some d, .load T x, ty, pos, aft, none⟩ :: rest) f s.w :=
 L_load hT hx hP hd (fun v hv => by rw [hv.int]; exact h)

theorem L_load_bool {T : TypeId} {x : Operand} {p : Value} {y : Bool} (hT : Ty P T Bool) (hx : ev f x = p) (hP : Ptr s p y) (hd : d < n)
  (h : L P n ops Q rest (upd f d (.bool y)) s.w) : L P n ops Q (⟨some d, .load T x, ty, pos, aft, none⟩ :: rest) f s.w :=
 L_load hT hx hP hd (fun v hv => by rw [hv.bool]; exact h)

theorem L_nilCheck {x : Operand} {a : Addr} (hx : ev f x = .pointer (some a)) (hd : d < n)
  (h : L P n ops Q rest (upd f d (.pointer (some a))) w) : L P n ops Q (⟨some d, .nilCheck x, ty, pos, aft, none⟩ :: rest) f w :=
 L_val (v := .pointer (some a)) rfl (fun k e => by cases e; exact hd) (by simp [execOp, hx]) h

theorem L_nilCheck_ptr {α : Type} [Rep α] {x : Operand} {p : Value} {y : α} (hx : ev f x = p) (hP : Ptr s p y) (hd : d < n)
  (h : L P n ops Q rest (upd f d p) w) : L P n ops Q (⟨some d, .nilCheck x, ty, pos, aft, none⟩ :: rest) f w := by
 obtain ⟨b, o, cs, rfl, _, _⟩ := hP
 exact L_nilCheck hx hd h

end
end Go.Arm
