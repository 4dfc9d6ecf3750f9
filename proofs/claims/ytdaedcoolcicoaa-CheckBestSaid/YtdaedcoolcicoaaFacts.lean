/- A part of the proof. -/
import Derived.Test.YtdaedcoolcicoaaStr
import Derived.Test.YtdaedcoolcicoaaProg
import Derived.KernelRfl
namespace Go.Arm
open Go Go.RowKit Go.Proofs
theorem mixed : Try.prog.follows .mixedOrders = true := by kernel_rfl
theorem ty3 : Ty Try.prog 3 Int := ⟨by kernel_rfl, by kernel_rfl⟩
theorem ty37 : Ty Try.prog 37 (List Level) := ⟨by kernel_rfl, by kernel_rfl⟩
theorem ty39 : Ty Try.prog 39 Level := ⟨by kernel_rfl, by kernel_rfl⟩
theorem ty40 : Ty Try.prog 40 (List Int) := ⟨by kernel_rfl, by kernel_rfl⟩
theorem ty44 : Ty Try.prog 44 Loss := ⟨by kernel_rfl, by kernel_rfl⟩
theorem tyz3 : TyZ Try.prog 3 Int 8 (.int .i64 0) := ⟨ty3, by kernel_rfl, by kernel_rfl, by show 0 < 1; decide⟩
theorem zero3 : (Try.prog.info? 3).map (·.zero) = some (some (.int .i64 0)) := by kernel_rfl
theorem zero39 : (Try.prog.info? 39).map (·.zero) = some (some (.agg #[.int .i64 0, .int .i64 0])) := by kernel_rfl
theorem zero40 : (Try.prog.info? 40).map (·.zero) = some (some (.slice none 0 0)) := by kernel_rfl
theorem zero44 : (Try.prog.info? 44).map (·.zero) = some (some (.agg #[.int .i64 0, .int .i64 0])) := by kernel_rfl
theorem zero106 : (Try.prog.info? 106).map (·.zero) = some (some (.nilFunc)) := by kernel_rfl
theorem fld39_0 : fieldAt Try.prog 39 0 = some (0, 3, 0 + 1) := by kernel_rfl
theorem fld39_1 : fieldAt Try.prog 39 1 = some (1, 3, 0 + 1) := by kernel_rfl
theorem fld44_0 : fieldAt Try.prog 44 0 = some (0, 3, 0 + 1) := by kernel_rfl
theorem fld44_1 : fieldAt Try.prog 44 1 = some (1, 3, 0 + 1) := by kernel_rfl
section
variable {n : Nat} {Q : Post} {f : Fr} {w : World} {ops : Array Oper} {rest : List Oper} {s : St} {d : Nat} {ty : TypeId} {pos : String} {aft : Array Edge}
theorem L_bld44_    (hd : d < n)
    (h : ∀ v, V s v (⟨0, 0⟩ : Loss) → L Try.prog n ops Q rest (upd f d v) w) : L Try.prog n ops Q (⟨some d, .build 44 #[], ty, pos, aft, none⟩ :: rest) f w := by
  have hr : (Instr.build 44 #[]).run Try.prog w = .ok (.agg #[.int .i64 0, .int .i64 0]) w := by kernel_rfl
  refine L_val rfl (fun k e => by cases e; exact hd) (w' := w) ?_ (h _ (Loss.mk_V Vint Vint))
  simp only [execOp, List.map_toArray, List.map_nil, Sem.run_bind, hr, Result.andThen_ok, Sem.run_pure]
theorem L_bld44_0_1 {x0 : Operand} {v0 : Value} {a0 : Int} {x1 : Operand} {v1 : Value} {a1 : Int} (h0 : ev f x0 = v0) (h1 : ev f x1 = v1) (k0 : V s v0 a0) (k1 : V s v1 a1) (hd : d < n)
    (h : ∀ v, V s v (⟨a0, a1⟩ : Loss) → L Try.prog n ops Q rest (upd f d v) w) : L Try.prog n ops Q (⟨some d, .build 44 #[(0, x0), (1, x1)], ty, pos, aft, none⟩ :: rest) f w := by
  obtain rfl := k0.int
  obtain rfl := k1.int
  have hr : (Instr.build 44 #[(0, .int .i64 a0), (1, .int .i64 a1)]).run Try.prog w = .ok (.agg #[.int .i64 a0, .int .i64 a1]) w := by kernel_rfl
  refine L_val rfl (fun k e => by cases e; exact hd) (w' := w) ?_ (h _ (Loss.mk_V k0 k1))
  simp only [execOp, List.map_toArray, List.map_cons, List.map_nil, h0, h1, Sem.run_bind, hr, Result.andThen_ok, Sem.run_pure]
end
theorem flat3 : Flat Int := fun _ _ _ _ h => h
theorem cal9 : Callee Try.prog 9 := ⟨_, Try.func9, by kernel_rfl, by kernel_rfl⟩
theorem cal16 : Callee Try.prog 16 := ⟨_, Try.func16, by kernel_rfl, by kernel_rfl⟩
theorem cal17 : Callee Try.prog 17 := ⟨_, Try.func17, by kernel_rfl, by kernel_rfl⟩
theorem cal18 : Callee Try.prog 18 := ⟨_, Try.func18, by kernel_rfl, by kernel_rfl⟩
theorem cal45 : Callee Try.prog 45 := ⟨_, Try.func45, by kernel_rfl, by kernel_rfl⟩
theorem cal46 : Callee Try.prog 46 := ⟨_, Try.func46, by kernel_rfl, by kernel_rfl⟩
theorem cal47 : Callee Try.prog 47 := ⟨_, Try.func47, by kernel_rfl, by kernel_rfl⟩
theorem cal48 : Callee Try.prog 48 := ⟨_, Try.func48, by kernel_rfl, by kernel_rfl⟩
theorem cal49 : Callee Try.prog 49 := ⟨_, Try.func49, by kernel_rfl, by kernel_rfl⟩
theorem cal50 : Callee Try.prog 50 := ⟨_, Try.func50, by kernel_rfl, by kernel_rfl⟩
theorem cal51 : Callee Try.prog 51 := ⟨_, Try.func51, by kernel_rfl, by kernel_rfl⟩
theorem cal53 : Callee Try.prog 53 := ⟨_, Try.func53, by kernel_rfl, by kernel_rfl⟩
theorem cal73 : Callee Try.prog 73 := ⟨_, Try.func73, by kernel_rfl, by kernel_rfl⟩
theorem cal74 : Callee Try.prog 74 := ⟨_, Try.func74, by kernel_rfl, by kernel_rfl⟩
theorem cal75 : Callee Try.prog 75 := ⟨_, Try.func75, by kernel_rfl, by kernel_rfl⟩
theorem cal76 : Callee Try.prog 76 := ⟨_, Try.func76, by kernel_rfl, by kernel_rfl⟩
theorem cal77 : Callee Try.prog 77 := ⟨_, Try.func77, by kernel_rfl, by kernel_rfl⟩
theorem cal78 : Callee Try.prog 78 := ⟨_, Try.func78, by kernel_rfl, by kernel_rfl⟩
theorem cal79 : Callee Try.prog 79 := ⟨_, Try.func79, by kernel_rfl, by kernel_rfl⟩
theorem cal80 : Callee Try.prog 80 := ⟨_, Try.func80, by kernel_rfl, by kernel_rfl⟩
theorem cal81 : Callee Try.prog 81 := ⟨_, Try.func81, by kernel_rfl, by kernel_rfl⟩
theorem cal87 : Callee Try.prog 87 := ⟨_, Try.func87, by kernel_rfl, by kernel_rfl⟩
theorem cal90 : Callee Try.prog 90 := ⟨_, Try.func90, by kernel_rfl, by kernel_rfl⟩
theorem cal91 : Callee Try.prog 91 := ⟨_, Try.func91, by kernel_rfl, by kernel_rfl⟩

end Go.Arm
