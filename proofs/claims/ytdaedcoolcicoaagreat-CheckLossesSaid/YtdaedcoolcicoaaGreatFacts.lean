/- A part of the proof. -/
import Derived.Test.YtdaedcoolcicoaaGreatStr
import Derived.Test.YtdaedcoolcicoaaGreatProg
import Derived.KernelRfl
namespace Go.Arm
open Go Go.RowKit Go.Proofs
theorem mixed : Tryz.prog.follows .mixedOrders = true := by kernel_rfl
theorem ty3 : Ty Tryz.prog 3 Int := ⟨by kernel_rfl, by kernel_rfl⟩
theorem ty38 : Ty Tryz.prog 38 (List Int) := ⟨by kernel_rfl, by kernel_rfl⟩
theorem ty40 : Ty Tryz.prog 40 Loss := ⟨by kernel_rfl, by kernel_rfl⟩
theorem ty43 : Ty Tryz.prog 43 (List Level) := ⟨by kernel_rfl, by kernel_rfl⟩
theorem ty45 : Ty Tryz.prog 45 Loss := ⟨by kernel_rfl, by kernel_rfl⟩
theorem ty103 : Ty Tryz.prog 103 Level := ⟨by kernel_rfl, by kernel_rfl⟩
theorem ty128 : Ty Tryz.prog 128 Level := ⟨by kernel_rfl, by kernel_rfl⟩
theorem tyz3 : TyZ Tryz.prog 3 Int 8 (.int .i64 0) := ⟨ty3, by kernel_rfl, by kernel_rfl, by show 0 < 1; decide⟩
theorem tyz103 : TyZ Tryz.prog 103 Level 16 (.agg #[.int .i64 0, .int .i64 0]) := ⟨ty103, by kernel_rfl, by kernel_rfl, by show 0 < 2; decide⟩
theorem zero3 : (Tryz.prog.info? 3).map (·.zero) = some (some (.int .i64 0)) := by kernel_rfl
theorem zero38 : (Tryz.prog.info? 38).map (·.zero) = some (some (.slice none 0 0)) := by kernel_rfl
theorem zero40 : (Tryz.prog.info? 40).map (·.zero) = some (some (.agg #[.int .i64 0, .int .i64 0])) := by kernel_rfl
theorem zero45 : (Tryz.prog.info? 45).map (·.zero) = some (some (.agg #[.int .i64 0, .int .i64 0])) := by kernel_rfl
theorem zero103 : (Tryz.prog.info? 103).map (·.zero) = some (some (.agg #[.int .i64 0, .int .i64 0])) := by kernel_rfl
theorem zero126 : (Tryz.prog.info? 126).map (·.zero) = some (some (.nilFunc)) := by kernel_rfl
theorem fld40_0 : fieldAt Tryz.prog 40 0 = some (0, 3, 0 + 1) := by kernel_rfl
theorem fld40_1 : fieldAt Tryz.prog 40 1 = some (1, 3, 0 + 1) := by kernel_rfl
theorem fld45_0 : fieldAt Tryz.prog 45 0 = some (0, 3, 0 + 1) := by kernel_rfl
theorem fld45_1 : fieldAt Tryz.prog 45 1 = some (1, 3, 0 + 1) := by kernel_rfl
theorem fld103_0 : fieldAt Tryz.prog 103 0 = some (0, 3, 0 + 1) := by kernel_rfl
theorem fld103_1 : fieldAt Tryz.prog 103 1 = some (1, 3, 0 + 1) := by kernel_rfl
theorem fld128_0 : fieldAt Tryz.prog 128 0 = some (0, 3, 0 + 1) := by kernel_rfl
theorem fld128_1 : fieldAt Tryz.prog 128 1 = some (1, 3, 0 + 1) := by kernel_rfl
section
variable {n : Nat} {Q : Post} {f : Fr} {w : World} {ops : Array Oper} {rest : List Oper} {s : St} {d : Nat} {ty : TypeId} {pos : String} {aft : Array Edge}
theorem L_bld40_    (hd : d < n)
    (h : ∀ v, V s v (⟨0, 0⟩ : Loss) → L Tryz.prog n ops Q rest (upd f d v) w) : L Tryz.prog n ops Q (⟨some d, .build 40 #[], ty, pos, aft, none⟩ :: rest) f w := by
  have hr : (Instr.build 40 #[]).run Tryz.prog w = .ok (.agg #[.int .i64 0, .int .i64 0]) w := by kernel_rfl
  refine L_val rfl (fun k e => by cases e; exact hd) (w' := w) ?_ (h _ (Loss.mk_V Vint Vint))
  simp only [execOp, List.map_toArray, List.map_nil, Sem.run_bind, hr, Result.andThen_ok, Sem.run_pure]
theorem L_bld40_0_1 {x0 : Operand} {v0 : Value} {a0 : Int} {x1 : Operand} {v1 : Value} {a1 : Int} (h0 : ev f x0 = v0) (h1 : ev f x1 = v1) (k0 : V s v0 a0) (k1 : V s v1 a1) (hd : d < n)
    (h : ∀ v, V s v (⟨a0, a1⟩ : Loss) → L Tryz.prog n ops Q rest (upd f d v) w) : L Tryz.prog n ops Q (⟨some d, .build 40 #[(0, x0), (1, x1)], ty, pos, aft, none⟩ :: rest) f w := by
  obtain rfl := k0.int
  obtain rfl := k1.int
  have hr : (Instr.build 40 #[(0, .int .i64 a0), (1, .int .i64 a1)]).run Tryz.prog w = .ok (.agg #[.int .i64 a0, .int .i64 a1]) w := by kernel_rfl
  refine L_val rfl (fun k e => by cases e; exact hd) (w' := w) ?_ (h _ (Loss.mk_V k0 k1))
  simp only [execOp, List.map_toArray, List.map_cons, List.map_nil, h0, h1, Sem.run_bind, hr, Result.andThen_ok, Sem.run_pure]
theorem L_bld45_    (hd : d < n)
    (h : ∀ v, V s v (⟨0, 0⟩ : Loss) → L Tryz.prog n ops Q rest (upd f d v) w) : L Tryz.prog n ops Q (⟨some d, .build 45 #[], ty, pos, aft, none⟩ :: rest) f w := by
  have hr : (Instr.build 45 #[]).run Tryz.prog w = .ok (.agg #[.int .i64 0, .int .i64 0]) w := by kernel_rfl
  refine L_val rfl (fun k e => by cases e; exact hd) (w' := w) ?_ (h _ (Loss.mk_V Vint Vint))
  simp only [execOp, List.map_toArray, List.map_nil, Sem.run_bind, hr, Result.andThen_ok, Sem.run_pure]
theorem L_bld45_0_1 {x0 : Operand} {v0 : Value} {a0 : Int} {x1 : Operand} {v1 : Value} {a1 : Int} (h0 : ev f x0 = v0) (h1 : ev f x1 = v1) (k0 : V s v0 a0) (k1 : V s v1 a1) (hd : d < n)
    (h : ∀ v, V s v (⟨a0, a1⟩ : Loss) → L Tryz.prog n ops Q rest (upd f d v) w) : L Tryz.prog n ops Q (⟨some d, .build 45 #[(0, x0), (1, x1)], ty, pos, aft, none⟩ :: rest) f w := by
  obtain rfl := k0.int
  obtain rfl := k1.int
  have hr : (Instr.build 45 #[(0, .int .i64 a0), (1, .int .i64 a1)]).run Tryz.prog w = .ok (.agg #[.int .i64 a0, .int .i64 a1]) w := by kernel_rfl
  refine L_val rfl (fun k e => by cases e; exact hd) (w' := w) ?_ (h _ (Loss.mk_V k0 k1))
  simp only [execOp, List.map_toArray, List.map_cons, List.map_nil, h0, h1, Sem.run_bind, hr, Result.andThen_ok, Sem.run_pure]
theorem L_bld103_0_1 {x0 : Operand} {v0 : Value} {a0 : Int} {x1 : Operand} {v1 : Value} {a1 : Int} (h0 : ev f x0 = v0) (h1 : ev f x1 = v1) (k0 : V s v0 a0) (k1 : V s v1 a1) (hd : d < n)
    (h : ∀ v, V s v (⟨a0, a1⟩ : Level) → L Tryz.prog n ops Q rest (upd f d v) w) : L Tryz.prog n ops Q (⟨some d, .build 103 #[(0, x0), (1, x1)], ty, pos, aft, none⟩ :: rest) f w := by
  obtain rfl := k0.int
  obtain rfl := k1.int
  have hr : (Instr.build 103 #[(0, .int .i64 a0), (1, .int .i64 a1)]).run Tryz.prog w = .ok (.agg #[.int .i64 a0, .int .i64 a1]) w := by kernel_rfl
  refine L_val rfl (fun k e => by cases e; exact hd) (w' := w) ?_ (h _ (Level.mk_V k0 k1))
  simp only [execOp, List.map_toArray, List.map_cons, List.map_nil, h0, h1, Sem.run_bind, hr, Result.andThen_ok, Sem.run_pure]
end
theorem flat3 : Flat Int := fun _ _ _ _ h => h
theorem cal11 : Callee Tryz.prog 11 := ⟨_, Tryz.func11, by kernel_rfl, by kernel_rfl⟩
theorem cal21 : Callee Tryz.prog 21 := ⟨_, Tryz.func21, by kernel_rfl, by kernel_rfl⟩
theorem cal22 : Callee Tryz.prog 22 := ⟨_, Tryz.func22, by kernel_rfl, by kernel_rfl⟩
theorem cal23 : Callee Tryz.prog 23 := ⟨_, Tryz.func23, by kernel_rfl, by kernel_rfl⟩
theorem cal24 : Callee Tryz.prog 24 := ⟨_, Tryz.func24, by kernel_rfl, by kernel_rfl⟩
theorem cal25 : Callee Tryz.prog 25 := ⟨_, Tryz.func25, by kernel_rfl, by kernel_rfl⟩
theorem cal26 : Callee Tryz.prog 26 := ⟨_, Tryz.func26, by kernel_rfl, by kernel_rfl⟩
theorem cal63 : Callee Tryz.prog 63 := ⟨_, Tryz.func63, by kernel_rfl, by kernel_rfl⟩
theorem cal64 : Callee Tryz.prog 64 := ⟨_, Tryz.func64, by kernel_rfl, by kernel_rfl⟩
theorem cal65 : Callee Tryz.prog 65 := ⟨_, Tryz.func65, by kernel_rfl, by kernel_rfl⟩
theorem cal66 : Callee Tryz.prog 66 := ⟨_, Tryz.func66, by kernel_rfl, by kernel_rfl⟩
theorem cal67 : Callee Tryz.prog 67 := ⟨_, Tryz.func67, by kernel_rfl, by kernel_rfl⟩
theorem cal68 : Callee Tryz.prog 68 := ⟨_, Tryz.func68, by kernel_rfl, by kernel_rfl⟩
theorem cal69 : Callee Tryz.prog 69 := ⟨_, Tryz.func69, by kernel_rfl, by kernel_rfl⟩
theorem cal70 : Callee Tryz.prog 70 := ⟨_, Tryz.func70, by kernel_rfl, by kernel_rfl⟩
theorem cal71 : Callee Tryz.prog 71 := ⟨_, Tryz.func71, by kernel_rfl, by kernel_rfl⟩
theorem cal72 : Callee Tryz.prog 72 := ⟨_, Tryz.func72, by kernel_rfl, by kernel_rfl⟩
theorem cal74 : Callee Tryz.prog 74 := ⟨_, Tryz.func74, by kernel_rfl, by kernel_rfl⟩
theorem cal113 : Callee Tryz.prog 113 := ⟨_, Tryz.func113, by kernel_rfl, by kernel_rfl⟩
theorem cal114 : Callee Tryz.prog 114 := ⟨_, Tryz.func114, by kernel_rfl, by kernel_rfl⟩
theorem cal115 : Callee Tryz.prog 115 := ⟨_, Tryz.func115, by kernel_rfl, by kernel_rfl⟩
theorem cal116 : Callee Tryz.prog 116 := ⟨_, Tryz.func116, by kernel_rfl, by kernel_rfl⟩
theorem cal117 : Callee Tryz.prog 117 := ⟨_, Tryz.func117, by kernel_rfl, by kernel_rfl⟩
theorem cal118 : Callee Tryz.prog 118 := ⟨_, Tryz.func118, by kernel_rfl, by kernel_rfl⟩
theorem cal119 : Callee Tryz.prog 119 := ⟨_, Tryz.func119, by kernel_rfl, by kernel_rfl⟩
theorem cal120 : Callee Tryz.prog 120 := ⟨_, Tryz.func120, by kernel_rfl, by kernel_rfl⟩
theorem cal121 : Callee Tryz.prog 121 := ⟨_, Tryz.func121, by kernel_rfl, by kernel_rfl⟩
theorem cal122 : Callee Tryz.prog 122 := ⟨_, Tryz.func122, by kernel_rfl, by kernel_rfl⟩
theorem cal127 : Callee Tryz.prog 127 := ⟨_, Tryz.func127, by kernel_rfl, by kernel_rfl⟩
theorem cal131 : Callee Tryz.prog 131 := ⟨_, Tryz.func131, by kernel_rfl, by kernel_rfl⟩
theorem cal132 : Callee Tryz.prog 132 := ⟨_, Tryz.func132, by kernel_rfl, by kernel_rfl⟩

end Go.Arm
