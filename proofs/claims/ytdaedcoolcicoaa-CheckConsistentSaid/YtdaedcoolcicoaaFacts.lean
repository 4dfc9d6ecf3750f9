/- A part of the proof. -/
import Derived.Test.YtdaedcoolcicoaaStr
import Derived.Test.YtdaedcoolcicoaaProg
import Derived.KernelRfl
namespace Go.Arm
open Go Go.RowKit Go.Proofs
theorem mixed : Try.prog.follows .mixedOrders = true := by kernel_rfl
theorem ty3 : Ty Try.prog 3 Int := ⟨by kernel_rfl, by kernel_rfl⟩
theorem ty5 : Ty Try.prog 5 U8 := ⟨by kernel_rfl, by kernel_rfl⟩
theorem ty50 : Ty Try.prog 50 (List Item) := ⟨by kernel_rfl, by kernel_rfl⟩
theorem ty55 : Ty Try.prog 55 Item := ⟨by kernel_rfl, by kernel_rfl⟩
theorem tyz3 : TyZ Try.prog 3 Int 8 (.int .i64 0) := ⟨ty3, by kernel_rfl, by kernel_rfl, by show 0 < 1; decide⟩
theorem zero55 : (Try.prog.info? 55).map (·.zero) = some (some (.agg #[.int .i64 0, .int .i64 0])) := by kernel_rfl
theorem fld55_0 : fieldAt Try.prog 55 0 = some (0, 3, 0 + 1) := by kernel_rfl
theorem fld55_1 : fieldAt Try.prog 55 1 = some (1, 3, 0 + 1) := by kernel_rfl
section
variable {n : Nat} {Q : Post} {f : Fr} {w : World} {ops : Array Oper} {rest : List Oper} {s : St} {d : Nat} {ty : TypeId} {pos : String} {aft : Array Edge}
end
theorem flat3 : Flat Int := fun _ _ _ _ h => h
theorem cal9 : Callee Try.prog 9 := ⟨_, Try.func9, by kernel_rfl, by kernel_rfl⟩
theorem cal21 : Callee Try.prog 21 := ⟨_, Try.func21, by kernel_rfl, by kernel_rfl⟩
theorem cal22 : Callee Try.prog 22 := ⟨_, Try.func22, by kernel_rfl, by kernel_rfl⟩
theorem cal92 : Callee Try.prog 92 := ⟨_, Try.func92, by kernel_rfl, by kernel_rfl⟩
end Go.Arm
