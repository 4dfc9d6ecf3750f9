/- A part of the proof. -/
import Derived.Test.YtdaedcoolcicoaaGreatStr
import Derived.Test.YtdaedcoolcicoaaGreatProg
import Derived.KernelRfl
namespace Go.Arm
open Go Go.RowKit Go.Proofs
theorem mixed : Tryz.prog.follows .mixedOrders = true := by kernel_rfl
theorem ty3 : Ty Tryz.prog 3 Int := ⟨by kernel_rfl, by kernel_rfl⟩
theorem ty54 : Ty Tryz.prog 54 (List Item) := ⟨by kernel_rfl, by kernel_rfl⟩
theorem ty105 : Ty Tryz.prog 105 Item := ⟨by kernel_rfl, by kernel_rfl⟩
theorem ty106 : Ty Tryz.prog 106 (List Item) := ⟨by kernel_rfl, by kernel_rfl⟩
theorem ty146 : Ty Tryz.prog 146 Item := ⟨by kernel_rfl, by kernel_rfl⟩
theorem tyz3 : TyZ Tryz.prog 3 Int 8 (.int .i64 0) := ⟨ty3, by kernel_rfl, by kernel_rfl, by show 0 < 1; decide⟩
theorem tyz105 : TyZ Tryz.prog 105 Item 16 (.agg #[.int .i64 0, .int .i64 0]) := ⟨ty105, by kernel_rfl, by kernel_rfl, by show 0 < 2; decide⟩
theorem tyz106 : TyZ Tryz.prog 106 (List Item) 24 (.slice none 0 0) := ⟨ty106, by kernel_rfl, by kernel_rfl, by show 0 < 1; decide⟩
theorem zero146 : (Tryz.prog.info? 146).map (·.zero) = some (some (.agg #[.int .i64 0, .int .i64 0])) := by kernel_rfl
theorem fld146_0 : fieldAt Tryz.prog 146 0 = some (0, 3, 0 + 1) := by kernel_rfl
theorem fld146_1 : fieldAt Tryz.prog 146 1 = some (1, 3, 0 + 1) := by kernel_rfl
section
variable {n : Nat} {Q : Post} {f : Fr} {w : World} {ops : Array Oper} {rest : List Oper} {s : St} {d : Nat} {ty : TypeId} {pos : String} {aft : Array Edge}
theorem L_bld105_0_1 {x0 : Operand} {v0 : Value} {a0 : Int} {x1 : Operand} {v1 : Value} {a1 : Int} (h0 : ev f x0 = v0) (h1 : ev f x1 = v1) (k0 : V s v0 a0) (k1 : V s v1 a1) (hd : d < n)
    (h : ∀ v, V s v (⟨a0, a1⟩ : Item) → L Tryz.prog n ops Q rest (upd f d v) w) : L Tryz.prog n ops Q (⟨some d, .build 105 #[(0, x0), (1, x1)], ty, pos, aft, none⟩ :: rest) f w := by
  obtain rfl := k0.int
  obtain rfl := k1.int
  have hr : (Instr.build 105 #[(0, .int .i64 a0), (1, .int .i64 a1)]).run Tryz.prog w = .ok (.agg #[.int .i64 a0, .int .i64 a1]) w := by kernel_rfl
  refine L_val rfl (fun k e => by cases e; exact hd) (w' := w) ?_ (h _ (Item.mk_V k0 k1))
  simp only [execOp, List.map_toArray, List.map_cons, List.map_nil, h0, h1, Sem.run_bind, hr, Result.andThen_ok, Sem.run_pure]
end
theorem flat3 : Flat Int := fun _ _ _ _ h => h
theorem cal11 : Callee Tryz.prog 11 := ⟨_, Tryz.func11, by kernel_rfl, by kernel_rfl⟩
theorem cal26 : Callee Tryz.prog 26 := ⟨_, Tryz.func26, by kernel_rfl, by kernel_rfl⟩
theorem cal77 : Callee Tryz.prog 77 := ⟨_, Tryz.func77, by kernel_rfl, by kernel_rfl⟩
theorem cal78 : Callee Tryz.prog 78 := ⟨_, Tryz.func78, by kernel_rfl, by kernel_rfl⟩
theorem cal79 : Callee Tryz.prog 79 := ⟨_, Tryz.func79, by kernel_rfl, by kernel_rfl⟩
theorem cal80 : Callee Tryz.prog 80 := ⟨_, Tryz.func80, by kernel_rfl, by kernel_rfl⟩
theorem cal81 : Callee Tryz.prog 81 := ⟨_, Tryz.func81, by kernel_rfl, by kernel_rfl⟩
theorem cal133 : Callee Tryz.prog 133 := ⟨_, Tryz.func133, by kernel_rfl, by kernel_rfl⟩
end Go.Arm
