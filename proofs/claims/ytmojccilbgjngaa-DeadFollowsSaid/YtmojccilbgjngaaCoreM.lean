/- Short forms of common steps. -/
import Derived.Test.YtmojccilbgjngaaCoreL
namespace Go.Arm
open Go Go.RowKit
section
variable {P : Program} {n : Nat} {Q : Post} {f : Fr} {w : World} {ops : Array Oper} {rest : List Oper} {s : St}
variable {d : Nat} {ty : TypeId} {pos : String} {aft : Array Edge}
theorem mv {x : Operand} {v : Value} (hv : ev f x = v) (h : L P n ops Q rest (upd f d v) w) (hd : d < n := by decide) : L P n ops Q (⟨some d, .move x, ty, pos, aft, none⟩ :: rest) f w := L_move hv hd h
theorem asg {x : Operand} {v : Value} (hv : ev f x = v) (h : L P n ops Q rest (upd f d v) w) (hd : d < n := by decide) : L P n ops Q (⟨some d, .assign x, ty, pos, aft, none⟩ :: rest) f w := L_assign hv hd h
theorem gf {op : Op} {j : Nat} {b c : Bool} (e : Nat) (hv : f e = .bool c) (hc : c = !b) (h : L P n ops Q rest (upd f d undef) w) (hj : (ops[j]?).bind (·.dst) = some e := by rfl) (he : e < n := by decide) (hd : d < n := by decide) :
    L P n ops Q (⟨some d, op, ty, pos, aft, some (j, b)⟩ :: rest) f w := L_gf hj he hv hc hd h
theorem gt {op : Op} {dst : Option Nat} {j : Nat} {b c : Bool} (e : Nat) (hv : f e = .bool c) (hc : c = b) (h : L P n ops Q (⟨dst, op, ty, pos, aft, none⟩ :: rest) f w) (hj : (ops[j]?).bind (·.dst) = some e := by rfl) (he : e < n := by decide) :
    L P n ops Q (⟨dst, op, ty, pos, aft, some (j, b)⟩ :: rest) f w := L_gt hj he hv hc h
theorem pt {c x y : Operand} {b : Bool} {v : Value} (hc : ev f c = .bool b) (hb : b = true) (hv : ev f x = v) (h : L P n ops Q rest (upd f d v) w) (hd : d < n := by decide) : L P n ops Q (⟨some d, .pick c x y, ty, pos, aft, none⟩ :: rest) f w := L_pick_t hc hb hv hd h
theorem pf {c x y : Operand} {b : Bool} {v : Value} (hc : ev f c = .bool b) (hb : b = false) (hv : ev f y = v) (h : L P n ops Q rest (upd f d v) w) (hd : d < n := by decide) : L P n ops Q (⟨some d, .pick c x y, ty, pos, aft, none⟩ :: rest) f w := L_pick_f hc hb hv hd h
theorem li {T : TypeId} {x : Operand} {p : Value} {y : Int} (hT : Ty P T Int) (hx : ev f x = p) (hP : Ptr s p y) (h : L P n ops Q rest (upd f d (.int .i64 y)) s.w) (hd : d < n := by decide) : L P n ops Q (⟨some d, .load T x, ty, pos, aft, none⟩ :: rest) f s.w := L_load_int hT hx hP hd h
theorem nn {nx : Fr → World → Prop} (h : nx f w) : L P n ops (Then nx Q) [] f w := L_nil (then_n h)
theorem sr {id : Nat} {l : List Oper} {y : Code} (h : L P n l.toArray (Then (fun f w => W P n y Q f w) Q) l f w) : W P n (.seq (.region id l.toArray false) y) Q f w := W_seq (W_region h)
theorem fin {Φ : Value → St → Prop} {v : Value} (hk : ∀ v s', Ext s s' → Φ v s' → Q .normal (updO f (some d) v) s'.w) (x : Φ v s) : L P n ops Q [] (upd f d v) s.w := L_nil (hk v s (Ext.refl s) x)
end
end Go.Arm
