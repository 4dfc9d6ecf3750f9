/- A part of the proof. -/
import Derived.Test.YtdaedcoolcicoaaStr
import Derived.Test.YtdaedcoolcicoaaProg
import Derived.KernelRfl
namespace Go.Arm
open Go Go.RowKit Go.Proofs
theorem mixed : Try.prog.follows .mixedOrders = true := by kernel_rfl
theorem ty3 : Ty Try.prog 3 Int := ⟨by kernel_rfl, by kernel_rfl⟩
theorem ty4 : Ty Try.prog 4 Bool := ⟨by kernel_rfl, by kernel_rfl⟩
theorem ty5 : Ty Try.prog 5 U8 := ⟨by kernel_rfl, by kernel_rfl⟩
theorem ty22 : Ty Try.prog 22 (List U8) := ⟨by kernel_rfl, by kernel_rfl⟩
theorem ty24 : Ty Try.prog 24 (List (List U8)) := ⟨by kernel_rfl, by kernel_rfl⟩
theorem tyz3 : TyZ Try.prog 3 Int 8 (.int .i64 0) := ⟨ty3, by kernel_rfl, by kernel_rfl, by show 0 < 1; decide⟩
theorem tyz4 : TyZ Try.prog 4 Bool 1 (.bool false) := ⟨ty4, by kernel_rfl, by kernel_rfl, by show 0 < 1; decide⟩
theorem tyz5 : TyZ Try.prog 5 U8 1 (.int .u8 0) := ⟨ty5, by kernel_rfl, by kernel_rfl, by show 0 < 1; decide⟩
theorem tyz22 : TyZ Try.prog 22 (List U8) 24 (.slice none 0 0) := ⟨ty22, by kernel_rfl, by kernel_rfl, by show 0 < 1; decide⟩
theorem zero3 : (Try.prog.info? 3).map (·.zero) = some (some (.int .i64 0)) := by kernel_rfl
theorem fld151_0 : fieldAt Try.prog 151 0 = some (0, 148, 509 + 1) := by kernel_rfl
theorem fld151_1 : fieldAt Try.prog 151 1 = some (510, 149, 255 + 1) := by kernel_rfl
section
variable {n : Nat} {Q : Post} {f : Fr} {w : World} {ops : Array Oper} {rest : List Oper} {s : St} {d : Nat} {ty : TypeId} {pos : String} {aft : Array Edge}
end
theorem flat4 : Flat Bool := fun _ _ _ _ h => h
theorem cal9 : Callee Try.prog 9 := ⟨_, Try.func9, by kernel_rfl, by kernel_rfl⟩
theorem cal10 : Callee Try.prog 10 := ⟨_, Try.func10, by kernel_rfl, by kernel_rfl⟩
theorem cal13 : Callee Try.prog 13 := ⟨_, Try.func13, by kernel_rfl, by kernel_rfl⟩
theorem cal30 : Callee Try.prog 30 := ⟨_, Try.func30, by kernel_rfl, by kernel_rfl⟩
theorem cal32 : Callee Try.prog 32 := ⟨_, Try.func32, by kernel_rfl, by kernel_rfl⟩
theorem cal36 : Callee Try.prog 36 := ⟨_, Try.func36, by kernel_rfl, by kernel_rfl⟩
theorem cal37 : Callee Try.prog 37 := ⟨_, Try.func37, by kernel_rfl, by kernel_rfl⟩
theorem cal38 : Callee Try.prog 38 := ⟨_, Try.func38, by kernel_rfl, by kernel_rfl⟩
theorem cal39 : Callee Try.prog 39 := ⟨_, Try.func39, by kernel_rfl, by kernel_rfl⟩
theorem cal40 : Callee Try.prog 40 := ⟨_, Try.func40, by kernel_rfl, by kernel_rfl⟩
theorem cal44 : Callee Try.prog 44 := ⟨_, Try.func44, by kernel_rfl, by kernel_rfl⟩
theorem cal61 : Callee Try.prog 61 := ⟨_, Try.func61, by kernel_rfl, by kernel_rfl⟩
theorem cal63 : Callee Try.prog 63 := ⟨_, Try.func63, by kernel_rfl, by kernel_rfl⟩
theorem cal64 : Callee Try.prog 64 := ⟨_, Try.func64, by kernel_rfl, by kernel_rfl⟩
theorem cal65 : Callee Try.prog 65 := ⟨_, Try.func65, by kernel_rfl, by kernel_rfl⟩
theorem cal66 : Callee Try.prog 66 := ⟨_, Try.func66, by kernel_rfl, by kernel_rfl⟩
theorem cal67 : Callee Try.prog 67 := ⟨_, Try.func67, by kernel_rfl, by kernel_rfl⟩
theorem cal68 : Callee Try.prog 68 := ⟨_, Try.func68, by kernel_rfl, by kernel_rfl⟩
theorem cal69 : Callee Try.prog 69 := ⟨_, Try.func69, by kernel_rfl, by kernel_rfl⟩
theorem cal70 : Callee Try.prog 70 := ⟨_, Try.func70, by kernel_rfl, by kernel_rfl⟩
theorem cal78 : Callee Try.prog 78 := ⟨_, Try.func78, by kernel_rfl, by kernel_rfl⟩
theorem cal87 : Callee Try.prog 87 := ⟨_, Try.func87, by kernel_rfl, by kernel_rfl⟩
theorem cal89 : Callee Try.prog 89 := ⟨_, Try.func89, by kernel_rfl, by kernel_rfl⟩
end Go.Arm
