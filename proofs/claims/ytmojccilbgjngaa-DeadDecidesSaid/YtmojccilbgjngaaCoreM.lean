/- Short forms of common steps. -/
import Derived.Test.YtmojccilbgjngaaCoreL
namespace Go.Arm
open Go Go.RowKit
section
variable {P : Program} {n : Nat} {Q : Post} {f : Fr} {w : World} {ops : Array Oper} {rest : List Oper} {s : St}
variable {d : Nat} {ty : TypeId} {pos : String} {aft : Array Edge}
theorem mv {x : Operand} {v : Value} (hv : ev f x = v) (h : L P n ops Q rest (upd f d v) w) (hd : d < n := by decide) : L P n ops Q (⟨some d, .move x, ty, pos, aft, none⟩ :: rest) f w := L_move hv hd h
theorem asg {x : Operand} {v : Value} (hv : ev f x = v) (h : L P n ops Q rest (upd f d v) w) (hd : d < n := by decide) : L P n ops Q (⟨some d, .assign x, ty, pos, aft, none⟩ :: rest) f w := L_assign hv hd h
theorem gf {op : Op} {j : Nat} {b c : Bool} (e : Nat) (hv : f e = .bool c) (hc : c = !b) (h : L P n ops Q rest (upd f d undef) w) (hj : (ops[j]?).bind (·.dst) = some e := by rfl) (he : e < n := by decide) (hd : d < n := by decide) :
  L P n ops Q (⟨some d, op, ty, pos, aft, some (j, b)⟩ :: rest) f w := L_gf hj he hv hc hd h
theorem gt {op : Op} {dst : Option Nat} {j : Nat} {b c : Bool} (e : Nat) (hv : f e = .bool c) (hc : c = b) (h : L P n ops Q (⟨dst, op, ty, pos, aft, none⟩ :: rest) f w) (hj : (ops[j]?).bind (·.dst) = some e := by rfl) (he : e < n := by decide) :
  L P n ops Q (⟨dst, op, ty, pos, aft, some (j, b)⟩ :: rest) f w := L_gt hj he hv hc h
theorem pt {c x y : Operand} {b : Bool} {v : Value} (hc : ev f c = .bool b) (hb : b = true) (hv : ev f x = v) (h : L P n ops Q rest (upd f d v) w) (hd : d < n := by decide) : L P n ops Q (⟨some d, .pick c x y, ty, pos, aft, none⟩ :: rest) f w := L_pick_t hc hb hv hd h
theorem pf {c x y : Operand} {b : Bool} {v : Value} (hc : ev f c = .bool b) (hb : b = false) (hv : ev f y = v) (h : L P n ops Q rest (upd f d v) w) (hd : d < n := by decide) : L P n ops Q (⟨some d, .pick c x y, ty, pos, aft, none⟩ :: rest) f w := L_pick_f hc hb hv hd h
theorem li {T : TypeId} {x : Operand} {p : Value} {y : Int} (hT : Ty P T Int) (hx : ev f x = p) (hP : Ptr s p y) (h : L P n ops Q rest (upd f d (.int .i64 y)) s.w) (hd : d < n := by decide) : L P n ops Q (⟨some d, .load T x, ty, pos, aft, none⟩ :: rest) f s.w := L_load_int hT hx hP hd h
theorem nn {nx : Fr → World → Prop} (h : nx f w) : L P n ops (Then nx Q) [] f w := L_nil (then_n h)
theorem sr {id : Nat} {l : List Oper} {y : Code} (h : L P n l.toArray (Then (fun f w => W P n y Q f w) Q) l f w) : W P n (.seq (.region id l.toArray false) y) Q f w := W_seq (W_region h)
theorem fin {Φ : Value → St → Prop} {v : Value} (hk : ∀ v s', Ext s s' → Φ v s' → Q .normal (updO f (some d) v) s'.w) (x : Φ v s) : L P n ops Q [] (upd f d v) s.w := L_nil (hk v s (Ext.refl s) x)
end
end Go.Arm
namespace Go.Arm
open Go
theorem rv (v : Value) : v = v := rfl
abbrev vi (n : Int) : Value := .int .i64 n
abbrev vb (b : Bool) : Value := .bool b
theorem tf (b : Bool) : b = true ∨ b = false := Bool.eq_false_or_eq_true b
end Go.Arm
namespace Go.Arm
open Go Go.RowKit
section
variable {P : Program} {n : Nat} {Q : Post} {f : Fr} {w : World} {ops : Array Oper} {rest : List Oper} {s : St}
variable {d : Nat} {ty : TypeId} {pos : String} {aft : Array Edge}
theorem ld {α : Type} [Rep α] {T : TypeId} {x : Operand} {p : Value} {y : α} (hT : Ty P T α) (hx : ev f x = p) (hP : Ptr s p y) (h : ∀ v, V s v y → L P n ops Q rest (upd f d v) s.w) (hd : d < n := by decide) : L P n ops Q (⟨some d, .load T x, ty, pos, aft, none⟩ :: rest) f s.w := L_load hT hx hP hd h
theorem fa {α β : Type} [Rep α] [Rep β] {T : TypeId} {k off sz : Nat} {ft : TypeId} {x : Operand} {p : Value} {a : α} {proj : α → β} (hT : fieldAt P T k = some (off, ft, sz + 1)) (hF : FieldOf proj off) (hx : ev f x = p) (hP : Ptr s p a) (h : ∀ q, Ptr s q (proj a) → L P n ops Q rest (upd f d q) w) (hd : d < n := by decide) : L P n ops Q (⟨some d, .fieldAddr T x k, ty, pos, aft, none⟩ :: rest) f w := L_fieldAddr hT hF hx hP hd h
theorem ix {α : Type} [Rep α] {T E : TypeId} {x i : Operand} {v : Value} {xs : List α} {k : IntKind} {j : Int} {y : α} (hT : P.underlying T = some (.slice E)) (hE : (P.info? E).map (·.size) = some (Rep.size α)) (hx : ev f x = v) (hV : V s v xs) (hi : ev f i = .int k j) (hy : idx xs j = some y) (h : ∀ p, Ptr s p y → L P n ops Q rest (upd f d p) w) (hd : d < n := by decide) : L P n ops Q (⟨some d, .indexAddr T x i, ty, pos, aft, none⟩ :: rest) f w := L_index hT hE hx hV hi hy hd h
theorem ln {α : Type} [Rep α] {T : TypeId} {x : Operand} {v : Value} {xs : List α} {E : TypeId} (hT : P.underlying T = some (.slice E)) (hx : ev f x = v) (hV : V s v xs) (h : L P n ops Q rest (upd f d (.int .i64 xs.length)) w) (hd : d < n := by decide) : L P n ops Q (⟨some d, .call ⟨.builtin .len, #[x], #[T]⟩, ty, pos, aft, none⟩ :: rest) f w := L_len hT hx hV hd h
theorem el {T T' : TypeId} {x y : Operand} {k : IntKind} {a b : Int} (hx : ev f x = .int k a) (hy : ev f y = .int k b) (h : L P n ops Q rest (upd f d (.bool (decide (a = b)))) w) (hd : d < n := by decide) : L P n ops Q (⟨some d, .binOp .eql T x y T', ty, pos, aft, none⟩ :: rest) f w := L_eql hx hy hd h
theorem ne {T T' : TypeId} {x y : Operand} {k : IntKind} {a b : Int} (hx : ev f x = .int k a) (hy : ev f y = .int k b) (h : L P n ops Q rest (upd f d (.bool (!decide (a = b)))) w) (hd : d < n := by decide) : L P n ops Q (⟨some d, .binOp .neq T x y T', ty, pos, aft, none⟩ :: rest) f w := L_neq hx hy hd h
theorem ls {T T' : TypeId} {x y : Operand} {k : IntKind} {a b : Int} (hx : ev f x = .int k a) (hy : ev f y = .int k b) (h : L P n ops Q rest (upd f d (.bool (decide (a < b)))) w) (hd : d < n := by decide) : L P n ops Q (⟨some d, .binOp .lss T x y T', ty, pos, aft, none⟩ :: rest) f w := L_lss hx hy hd h
theorem ad {T T' : TypeId} {x y : Operand} {a b : Int} (hx : ev f x = .int .i64 a) (hy : ev f y = .int .i64 b) (hr : inR (a + b)) (h : L P n ops Q rest (upd f d (.int .i64 (a + b))) w) (hd : d < n := by decide) : L P n ops Q (⟨some d, .binOp .add T x y T', ty, pos, aft, none⟩ :: rest) f w := L_add hx hy hr hd h
theorem xt {x : Operand} {k : Nat} {vs : Array Value} {v : Value} (hx : ev f x = .tuple vs) (hv : vs[k]? = some v) (h : L P n ops Q rest (upd f d v) w) (hd : d < n := by decide) : L P n ops Q (⟨some d, .extract x k, ty, pos, aft, none⟩ :: rest) f w := L_extract hx hv hd h
end
end Go.Arm
