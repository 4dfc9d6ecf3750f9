/- A part of the proof. -/
import Derived.Test.YtdaedcoolcicoaaGreatStr
import Derived.Test.YtdaedcoolcicoaaGreatProg
import Derived.KernelRfl
namespace Go.Arm
open Go Go.RowKit Go.Proofs
theorem mixed : Tryz.prog.follows .mixedOrders = true := by kernel_rfl
theorem ty3 : Ty Tryz.prog 3 Int := ⟨by kernel_rfl, by kernel_rfl⟩
theorem ty5 : Ty Tryz.prog 5 U8 := ⟨by kernel_rfl, by kernel_rfl⟩
theorem ty22 : Ty Tryz.prog 22 (List (List U8)) := ⟨by kernel_rfl, by kernel_rfl⟩
theorem ty23 : Ty Tryz.prog 23 (List U8) := ⟨by kernel_rfl, by kernel_rfl⟩
theorem tyz5 : TyZ Tryz.prog 5 U8 1 (.int .u8 0) := ⟨ty5, by kernel_rfl, by kernel_rfl, by show 0 < 1; decide⟩
theorem tyz23 : TyZ Tryz.prog 23 (List U8) 24 (.slice none 0 0) := ⟨ty23, by kernel_rfl, by kernel_rfl, by show 0 < 1; decide⟩
theorem fld193_0 : fieldAt Tryz.prog 193 0 = some (0, 190, 509 + 1) := by kernel_rfl
theorem fld193_1 : fieldAt Tryz.prog 193 1 = some (510, 191, 255 + 1) := by kernel_rfl
section
variable {n : Nat} {Q : Post} {f : Fr} {w : World} {ops : Array Oper} {rest : List Oper} {s : St} {d : Nat} {ty : TypeId} {pos : String} {aft : Array Edge}
end
theorem cal10 : Callee Tryz.prog 10 := ⟨_, Tryz.func10, by kernel_rfl, by kernel_rfl⟩
theorem cal11 : Callee Tryz.prog 11 := ⟨_, Tryz.func11, by kernel_rfl, by kernel_rfl⟩
theorem cal13 : Callee Tryz.prog 13 := ⟨_, Tryz.func13, by kernel_rfl, by kernel_rfl⟩
theorem cal14 : Callee Tryz.prog 14 := ⟨_, Tryz.func14, by kernel_rfl, by kernel_rfl⟩
theorem cal16 : Callee Tryz.prog 16 := ⟨_, Tryz.func16, by kernel_rfl, by kernel_rfl⟩
theorem cal49 : Callee Tryz.prog 49 := ⟨_, Tryz.func49, by kernel_rfl, by kernel_rfl⟩
theorem cal50 : Callee Tryz.prog 50 := ⟨_, Tryz.func50, by kernel_rfl, by kernel_rfl⟩
theorem cal51 : Callee Tryz.prog 51 := ⟨_, Tryz.func51, by kernel_rfl, by kernel_rfl⟩
theorem cal52 : Callee Tryz.prog 52 := ⟨_, Tryz.func52, by kernel_rfl, by kernel_rfl⟩
theorem cal53 : Callee Tryz.prog 53 := ⟨_, Tryz.func53, by kernel_rfl, by kernel_rfl⟩
theorem cal97 : Callee Tryz.prog 97 := ⟨_, Tryz.func97, by kernel_rfl, by kernel_rfl⟩
theorem cal98 : Callee Tryz.prog 98 := ⟨_, Tryz.func98, by kernel_rfl, by kernel_rfl⟩
theorem cal99 : Callee Tryz.prog 99 := ⟨_, Tryz.func99, by kernel_rfl, by kernel_rfl⟩
theorem cal100 : Callee Tryz.prog 100 := ⟨_, Tryz.func100, by kernel_rfl, by kernel_rfl⟩
theorem cal101 : Callee Tryz.prog 101 := ⟨_, Tryz.func101, by kernel_rfl, by kernel_rfl⟩
theorem cal102 : Callee Tryz.prog 102 := ⟨_, Tryz.func102, by kernel_rfl, by kernel_rfl⟩
theorem cal104 : Callee Tryz.prog 104 := ⟨_, Tryz.func104, by kernel_rfl, by kernel_rfl⟩
theorem cal106 : Callee Tryz.prog 106 := ⟨_, Tryz.func106, by kernel_rfl, by kernel_rfl⟩
theorem cal108 : Callee Tryz.prog 108 := ⟨_, Tryz.func108, by kernel_rfl, by kernel_rfl⟩
theorem cal130 : Callee Tryz.prog 130 := ⟨_, Tryz.func130, by kernel_rfl, by kernel_rfl⟩
end Go.Arm
