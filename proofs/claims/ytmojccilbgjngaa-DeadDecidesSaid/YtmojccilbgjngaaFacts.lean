/- Closed facts on the program: types, sizes, fields, callees. -/
import Derived.Test.YtmojccilbgjngaaStr
import Derived.Test.YtmojccilbgjngaaProg
import Derived.KernelRfl
namespace Go.Arm
open Go Go.RowKit Go.Proofs
theorem mixed : Try.prog.follows .mixedOrders = true := by kernel_rfl
theorem ty3 : Ty Try.prog 3 Int := ⟨by kernel_rfl, by kernel_rfl⟩
theorem ty4 : Ty Try.prog 4 Bool := ⟨by kernel_rfl, by kernel_rfl⟩
theorem ty22 : Ty Try.prog 22 (List (List Deed)) := ⟨by kernel_rfl, by kernel_rfl⟩
theorem ty23 : Ty Try.prog 23 (List Int) := ⟨by kernel_rfl, by kernel_rfl⟩
theorem ty29 : Ty Try.prog 29 (List (List Deed)) := ⟨by kernel_rfl, by kernel_rfl⟩
theorem ty40 : Ty Try.prog 40 Verdict := ⟨by kernel_rfl, by kernel_rfl⟩
theorem ty43 : Ty Try.prog 43 Verdict := ⟨by kernel_rfl, by kernel_rfl⟩
theorem ty58 : Ty Try.prog 58 Block := ⟨by kernel_rfl, by kernel_rfl⟩
theorem ty59 : Ty Try.prog 59 (List Deed) := ⟨by kernel_rfl, by kernel_rfl⟩
theorem ty64 : Ty Try.prog 64 Deed := ⟨by kernel_rfl, by kernel_rfl⟩
theorem ty65 : Ty Try.prog 65 (List Deed) := ⟨by kernel_rfl, by kernel_rfl⟩
theorem ty67 : Ty Try.prog 67 (Ref Run) := ⟨by kernel_rfl, by kernel_rfl⟩
theorem ty74 : Ty Try.prog 74 Deed := ⟨by kernel_rfl, by kernel_rfl⟩
theorem tyz3 : TyZ Try.prog 3 Int 8 (.int .i64 0) := ⟨ty3, by kernel_rfl, by kernel_rfl, by show 0 < 1; decide⟩
theorem tyz4 : TyZ Try.prog 4 Bool 1 (.bool false) := ⟨ty4, by kernel_rfl, by kernel_rfl, by show 0 < 1; decide⟩
theorem tyz23 : TyZ Try.prog 23 (List Int) 24 (.slice none 0 0) := ⟨ty23, by kernel_rfl, by kernel_rfl, by show 0 < 1; decide⟩
theorem tyz58 : TyZ Try.prog 58 Block 40 (.agg #[.int .i64 0, .int .i64 0, .slice none 0 0]) := ⟨ty58, by kernel_rfl, by kernel_rfl, by show 0 < 3; decide⟩
theorem tyz59 : TyZ Try.prog 59 (List Deed) 24 (.slice none 0 0) := ⟨ty59, by kernel_rfl, by kernel_rfl, by show 0 < 1; decide⟩
theorem tyz64 : TyZ Try.prog 64 Deed 40 (.agg #[.int .i64 0, .int .i64 0, .int .i64 0, .int .i64 0, .bool false]) := ⟨ty64, by kernel_rfl, by kernel_rfl, by show 0 < 5; decide⟩
theorem tyz65 : TyZ Try.prog 65 (List Deed) 24 (.slice none 0 0) := ⟨ty65, by kernel_rfl, by kernel_rfl, by show 0 < 1; decide⟩
theorem tyz74 : TyZ Try.prog 74 Deed 40 (.agg #[.int .i64 0, .int .i64 0, .int .i64 0, .int .i64 0, .bool false]) := ⟨ty74, by kernel_rfl, by kernel_rfl, by show 0 < 5; decide⟩
theorem zero3 : (Try.prog.info? 3).map (·.zero) = some (some (.int .i64 0)) := by kernel_rfl
theorem zero25 : (Try.prog.info? 25).map (·.zero) = some (some (.nilFunc)) := by kernel_rfl
theorem zero40 : (Try.prog.info? 40).map (·.zero) = some (some (.agg #[.int .i64 0, .int .i64 0])) := by kernel_rfl
theorem zero43 : (Try.prog.info? 43).map (·.zero) = some (some (.agg #[.int .i64 0, .int .i64 0])) := by kernel_rfl
theorem zero58 : (Try.prog.info? 58).map (·.zero) = some (some (.agg #[.int .i64 0, .int .i64 0, .slice none 0 0])) := by kernel_rfl
theorem zero64 : (Try.prog.info? 64).map (·.zero) = some (some (.agg #[.int .i64 0, .int .i64 0, .int .i64 0, .int .i64 0, .bool false])) := by kernel_rfl
theorem zero74 : (Try.prog.info? 74).map (·.zero) = some (some (.agg #[.int .i64 0, .int .i64 0, .int .i64 0, .int .i64 0, .bool false])) := by kernel_rfl
theorem fld40_0 : fieldAt Try.prog 40 0 = some (0, 3, 0 + 1) := by kernel_rfl
theorem fld40_1 : fieldAt Try.prog 40 1 = some (1, 3, 0 + 1) := by kernel_rfl
theorem fld43_0 : fieldAt Try.prog 43 0 = some (0, 3, 0 + 1) := by kernel_rfl
theorem fld43_1 : fieldAt Try.prog 43 1 = some (1, 3, 0 + 1) := by kernel_rfl
theorem fld58_0 : fieldAt Try.prog 58 0 = some (0, 3, 0 + 1) := by kernel_rfl
theorem fld58_2 : fieldAt Try.prog 58 2 = some (2, 23, 0 + 1) := by kernel_rfl
theorem fld64_0 : fieldAt Try.prog 64 0 = some (0, 3, 0 + 1) := by kernel_rfl
theorem fld64_1 : fieldAt Try.prog 64 1 = some (1, 3, 0 + 1) := by kernel_rfl
theorem fld64_2 : fieldAt Try.prog 64 2 = some (2, 3, 0 + 1) := by kernel_rfl
theorem fld64_3 : fieldAt Try.prog 64 3 = some (3, 3, 0 + 1) := by kernel_rfl
theorem fld64_4 : fieldAt Try.prog 64 4 = some (4, 4, 0 + 1) := by kernel_rfl
theorem fld72_0 : fieldAt Try.prog 72 0 = some (0, 29, 0 + 1) := by kernel_rfl
theorem fld72_1 : fieldAt Try.prog 72 1 = some (1, 3, 0 + 1) := by kernel_rfl
theorem fld72_2 : fieldAt Try.prog 72 2 = some (2, 23, 0 + 1) := by kernel_rfl
theorem fld74_0 : fieldAt Try.prog 74 0 = some (0, 3, 0 + 1) := by kernel_rfl
theorem fld74_1 : fieldAt Try.prog 74 1 = some (1, 3, 0 + 1) := by kernel_rfl
theorem fld74_2 : fieldAt Try.prog 74 2 = some (2, 3, 0 + 1) := by kernel_rfl
theorem fld74_3 : fieldAt Try.prog 74 3 = some (3, 3, 0 + 1) := by kernel_rfl
theorem fld74_4 : fieldAt Try.prog 74 4 = some (4, 4, 0 + 1) := by kernel_rfl
theorem fld79_0 : fieldAt Try.prog 79 0 = some (0, 22, 0 + 1) := by kernel_rfl
theorem fld79_1 : fieldAt Try.prog 79 1 = some (1, 3, 0 + 1) := by kernel_rfl
theorem fld79_2 : fieldAt Try.prog 79 2 = some (2, 23, 0 + 1) := by kernel_rfl
section
variable {n : Nat} {Q : Post} {f : Fr} {w : World} {ops : Array Oper} {rest : List Oper} {s : St} {d : Nat} {ty : TypeId} {pos : String} {aft : Array Edge}
theorem eqv40 (x y : Verdict) (w : World) : (Op.equal 40 (.agg #[.int .i64 x.Kind, .int .i64 x.Room]) (.agg #[.int .i64 y.Kind, .int .i64 y.Room])).run Try.prog w = .ok (decide (x = y)) w := by
 have h : fieldsEq Try.prog #[.int .i64 x.Kind, .int .i64 x.Room] #[.int .i64 y.Kind, .int .i64 y.Room] (Try.prog.fieldsOf 40).toList = some (x.Kind == y.Kind && (x.Room == y.Room && true)) := by kernel_rfl
 refine (run_equal_plain (fs := Try.prog.fieldsOf 40) (by kernel_rfl) (by kernel_rfl) h).trans (congrArg (fun r => Result.ok r w) ?_)
 rw [Bool.eq_iff_iff]; cases x; cases y; simp
theorem L_sne40 {T : TypeId} {x y : Operand} {vx vy : Value} {a b : Verdict} (hx : ev f x = vx) (hV : V s vx a) (hy : ev f y = vy) (hW : V s vy b) (hd : d < n)
  (h : L Try.prog n ops Q rest (upd f d (.bool (!decide (a = b)))) w) : L Try.prog n ops Q (⟨some d, .binOp .neq 40 x y T, ty, pos, aft, none⟩ :: rest) f w :=
 L_sne (hx.trans (Verdict.val hV)) (hy.trans (Verdict.val hW)) (by kernel_rfl) (eqv40 a b w) hd h
theorem eqv64 (x y : Deed) (w : World) : (Op.equal 64 (.agg #[.int .i64 x.Kind, .int .i64 x.Peer, .int .i64 x.Tag, .int .i64 x.Req, .bool x.Sync]) (.agg #[.int .i64 y.Kind, .int .i64 y.Peer, .int .i64 y.Tag, .int .i64 y.Req, .bool y.Sync])).run Try.prog w = .ok (decide (x = y)) w := by
 have h : fieldsEq Try.prog #[.int .i64 x.Kind, .int .i64 x.Peer, .int .i64 x.Tag, .int .i64 x.Req, .bool x.Sync] #[.int .i64 y.Kind, .int .i64 y.Peer, .int .i64 y.Tag, .int .i64 y.Req, .bool y.Sync] (Try.prog.fieldsOf 64).toList = some (x.Kind == y.Kind && (x.Peer == y.Peer && (x.Tag == y.Tag && (x.Req == y.Req && (x.Sync == y.Sync && true))))) := by kernel_rfl
 refine (run_equal_plain (fs := Try.prog.fieldsOf 64) (by kernel_rfl) (by kernel_rfl) h).trans (congrArg (fun r => Result.ok r w) ?_)
 rw [Bool.eq_iff_iff]; cases x; cases y; simp
theorem L_seq64 {T : TypeId} {x y : Operand} {vx vy : Value} {a b : Deed} (hx : ev f x = vx) (hV : V s vx a) (hy : ev f y = vy) (hW : V s vy b) (hd : d < n)
  (h : L Try.prog n ops Q rest (upd f d (.bool (decide (a = b)))) w) : L Try.prog n ops Q (⟨some d, .binOp .eql 64 x y T, ty, pos, aft, none⟩ :: rest) f w :=
 L_seq (hx.trans (Deed.val hV)) (hy.trans (Deed.val hW)) (by kernel_rfl) (eqv64 a b w) hd h
theorem L_bld40_    (hd : d < n)
  (h : ∀ v, V s v (⟨0, 0⟩ : Verdict) → L Try.prog n ops Q rest (upd f d v) w) : L Try.prog n ops Q (⟨some d, .build 40 #[], ty, pos, aft, none⟩ :: rest) f w := by
 have hr : (Instr.build 40 #[]).run Try.prog w = .ok (.agg #[.int .i64 0, .int .i64 0]) w := by kernel_rfl
 refine L_val rfl (fun k e => by cases e; exact hd) (w' := w) ?_ (h _ (Verdict.mk_V Vint Vint))
 simp only [execOp, List.map_toArray, List.map_cons, List.map_nil, Sem.run_bind, hr, Result.andThen_ok, Sem.run_pure]
theorem L_bld40_0 {x0 : Operand} {v0 : Value} {a0 : Int} (h0 : ev f x0 = v0) (k0 : V s v0 a0) (hd : d < n)
  (h : ∀ v, V s v (⟨a0, 0⟩ : Verdict) → L Try.prog n ops Q rest (upd f d v) w) : L Try.prog n ops Q (⟨some d, .build 40 #[(0, x0)], ty, pos, aft, none⟩ :: rest) f w := by
 obtain rfl := k0.int
 have hr : (Instr.build 40 #[(0, .int .i64 a0)]).run Try.prog w = .ok (.agg #[.int .i64 a0, .int .i64 0]) w := by kernel_rfl
 refine L_val rfl (fun k e => by cases e; exact hd) (w' := w) ?_ (h _ (Verdict.mk_V k0 Vint))
 simp only [execOp, List.map_toArray, List.map_cons, List.map_nil, h0, Sem.run_bind, hr, Result.andThen_ok, Sem.run_pure]
theorem L_bld40_0_1 {x0 : Operand} {v0 : Value} {a0 : Int} {x1 : Operand} {v1 : Value} {a1 : Int} (h0 : ev f x0 = v0) (h1 : ev f x1 = v1) (k0 : V s v0 a0) (k1 : V s v1 a1) (hd : d < n)
  (h : ∀ v, V s v (⟨a0, a1⟩ : Verdict) → L Try.prog n ops Q rest (upd f d v) w) : L Try.prog n ops Q (⟨some d, .build 40 #[(0, x0), (1, x1)], ty, pos, aft, none⟩ :: rest) f w := by
 obtain rfl := k0.int
 obtain rfl := k1.int
 have hr : (Instr.build 40 #[(0, .int .i64 a0), (1, .int .i64 a1)]).run Try.prog w = .ok (.agg #[.int .i64 a0, .int .i64 a1]) w := by kernel_rfl
 refine L_val rfl (fun k e => by cases e; exact hd) (w' := w) ?_ (h _ (Verdict.mk_V k0 k1))
 simp only [execOp, List.map_toArray, List.map_cons, List.map_nil, h0, h1, Sem.run_bind, hr, Result.andThen_ok, Sem.run_pure]
theorem L_bld43_    (hd : d < n)
  (h : ∀ v, V s v (⟨0, 0⟩ : Verdict) → L Try.prog n ops Q rest (upd f d v) w) : L Try.prog n ops Q (⟨some d, .build 43 #[], ty, pos, aft, none⟩ :: rest) f w := by
 have hr : (Instr.build 43 #[]).run Try.prog w = .ok (.agg #[.int .i64 0, .int .i64 0]) w := by kernel_rfl
 refine L_val rfl (fun k e => by cases e; exact hd) (w' := w) ?_ (h _ (Verdict.mk_V Vint Vint))
 simp only [execOp, List.map_toArray, List.map_cons, List.map_nil, Sem.run_bind, hr, Result.andThen_ok, Sem.run_pure]
theorem L_bld43_0_1 {x0 : Operand} {v0 : Value} {a0 : Int} {x1 : Operand} {v1 : Value} {a1 : Int} (h0 : ev f x0 = v0) (h1 : ev f x1 = v1) (k0 : V s v0 a0) (k1 : V s v1 a1) (hd : d < n)
  (h : ∀ v, V s v (⟨a0, a1⟩ : Verdict) → L Try.prog n ops Q rest (upd f d v) w) : L Try.prog n ops Q (⟨some d, .build 43 #[(0, x0), (1, x1)], ty, pos, aft, none⟩ :: rest) f w := by
 obtain rfl := k0.int
 obtain rfl := k1.int
 have hr : (Instr.build 43 #[(0, .int .i64 a0), (1, .int .i64 a1)]).run Try.prog w = .ok (.agg #[.int .i64 a0, .int .i64 a1]) w := by kernel_rfl
 refine L_val rfl (fun k e => by cases e; exact hd) (w' := w) ?_ (h _ (Verdict.mk_V k0 k1))
 simp only [execOp, List.map_toArray, List.map_cons, List.map_nil, h0, h1, Sem.run_bind, hr, Result.andThen_ok, Sem.run_pure]
theorem L_bld58_0_1_2 {x0 : Operand} {v0 : Value} {a0 : Int} {x1 : Operand} {v1 : Value} {a1 : Int} {x2 : Operand} {v2 : Value} {a2 : List Int} (h0 : ev f x0 = v0) (h1 : ev f x1 = v1) (h2 : ev f x2 = v2) (k0 : V s v0 a0) (k1 : V s v1 a1) (k2 : V s v2 a2) (hd : d < n)
  (h : ∀ v, V s v (⟨a0, a1, a2⟩ : Block) → L Try.prog n ops Q rest (upd f d v) w) : L Try.prog n ops Q (⟨some d, .build 58 #[(0, x0), (1, x1), (2, x2)], ty, pos, aft, none⟩ :: rest) f w := by
 obtain rfl := k0.int
 obtain rfl := k1.int
 obtain ⟨b2, c2, rfl, _⟩ := k2.slice
 have hr : (Instr.build 58 #[(0, .int .i64 a0), (1, .int .i64 a1), (2, .slice b2 a2.length c2)]).run Try.prog w = .ok (.agg #[.int .i64 a0, .int .i64 a1, .slice b2 a2.length c2]) w := by kernel_rfl
 refine L_val rfl (fun k e => by cases e; exact hd) (w' := w) ?_ (h _ (Block.mk_V k0 k1 k2))
 simp only [execOp, List.map_toArray, List.map_cons, List.map_nil, h0, h1, h2, Sem.run_bind, hr, Result.andThen_ok, Sem.run_pure]
theorem L_bld64_0 {x0 : Operand} {v0 : Value} {a0 : Int} (h0 : ev f x0 = v0) (k0 : V s v0 a0) (hd : d < n)
  (h : ∀ v, V s v (⟨a0, 0, 0, 0, false⟩ : Deed) → L Try.prog n ops Q rest (upd f d v) w) : L Try.prog n ops Q (⟨some d, .build 64 #[(0, x0)], ty, pos, aft, none⟩ :: rest) f w := by
 obtain rfl := k0.int
 have hr : (Instr.build 64 #[(0, .int .i64 a0)]).run Try.prog w = .ok (.agg #[.int .i64 a0, .int .i64 0, .int .i64 0, .int .i64 0, .bool false]) w := by kernel_rfl
 refine L_val rfl (fun k e => by cases e; exact hd) (w' := w) ?_ (h _ (Deed.mk_V k0 Vint Vint Vint Vbool))
 simp only [execOp, List.map_toArray, List.map_cons, List.map_nil, h0, Sem.run_bind, hr, Result.andThen_ok, Sem.run_pure]
theorem L_bld64_0_1 {x0 : Operand} {v0 : Value} {a0 : Int} {x1 : Operand} {v1 : Value} {a1 : Int} (h0 : ev f x0 = v0) (h1 : ev f x1 = v1) (k0 : V s v0 a0) (k1 : V s v1 a1) (hd : d < n)
  (h : ∀ v, V s v (⟨a0, a1, 0, 0, false⟩ : Deed) → L Try.prog n ops Q rest (upd f d v) w) : L Try.prog n ops Q (⟨some d, .build 64 #[(0, x0), (1, x1)], ty, pos, aft, none⟩ :: rest) f w := by
 obtain rfl := k0.int
 obtain rfl := k1.int
 have hr : (Instr.build 64 #[(0, .int .i64 a0), (1, .int .i64 a1)]).run Try.prog w = .ok (.agg #[.int .i64 a0, .int .i64 a1, .int .i64 0, .int .i64 0, .bool false]) w := by kernel_rfl
 refine L_val rfl (fun k e => by cases e; exact hd) (w' := w) ?_ (h _ (Deed.mk_V k0 k1 Vint Vint Vbool))
 simp only [execOp, List.map_toArray, List.map_cons, List.map_nil, h0, h1, Sem.run_bind, hr, Result.andThen_ok, Sem.run_pure]
theorem L_bld64_0_1_2 {x0 : Operand} {v0 : Value} {a0 : Int} {x1 : Operand} {v1 : Value} {a1 : Int} {x2 : Operand} {v2 : Value} {a2 : Int} (h0 : ev f x0 = v0) (h1 : ev f x1 = v1) (h2 : ev f x2 = v2) (k0 : V s v0 a0) (k1 : V s v1 a1) (k2 : V s v2 a2) (hd : d < n)
  (h : ∀ v, V s v (⟨a0, a1, a2, 0, false⟩ : Deed) → L Try.prog n ops Q rest (upd f d v) w) : L Try.prog n ops Q (⟨some d, .build 64 #[(0, x0), (1, x1), (2, x2)], ty, pos, aft, none⟩ :: rest) f w := by
 obtain rfl := k0.int
 obtain rfl := k1.int
 obtain rfl := k2.int
 have hr : (Instr.build 64 #[(0, .int .i64 a0), (1, .int .i64 a1), (2, .int .i64 a2)]).run Try.prog w = .ok (.agg #[.int .i64 a0, .int .i64 a1, .int .i64 a2, .int .i64 0, .bool false]) w := by kernel_rfl
 refine L_val rfl (fun k e => by cases e; exact hd) (w' := w) ?_ (h _ (Deed.mk_V k0 k1 k2 Vint Vbool))
 simp only [execOp, List.map_toArray, List.map_cons, List.map_nil, h0, h1, h2, Sem.run_bind, hr, Result.andThen_ok, Sem.run_pure]
theorem L_bld64_0_1_2_3_4 {x0 : Operand} {v0 : Value} {a0 : Int} {x1 : Operand} {v1 : Value} {a1 : Int} {x2 : Operand} {v2 : Value} {a2 : Int} {x3 : Operand} {v3 : Value} {a3 : Int} {x4 : Operand} {v4 : Value} {a4 : Bool} (h0 : ev f x0 = v0) (h1 : ev f x1 = v1) (h2 : ev f x2 = v2) (h3 : ev f x3 = v3) (h4 : ev f x4 = v4) (k0 : V s v0 a0) (k1 : V s v1 a1) (k2 : V s v2 a2) (k3 : V s v3 a3) (k4 : V s v4 a4) (hd : d < n)
  (h : ∀ v, V s v (⟨a0, a1, a2, a3, a4⟩ : Deed) → L Try.prog n ops Q rest (upd f d v) w) : L Try.prog n ops Q (⟨some d, .build 64 #[(0, x0), (1, x1), (2, x2), (3, x3), (4, x4)], ty, pos, aft, none⟩ :: rest) f w := by
 obtain rfl := k0.int
 obtain rfl := k1.int
 obtain rfl := k2.int
 obtain rfl := k3.int
 obtain rfl := k4.bool
 have hr : (Instr.build 64 #[(0, .int .i64 a0), (1, .int .i64 a1), (2, .int .i64 a2), (3, .int .i64 a3), (4, .bool a4)]).run Try.prog w = .ok (.agg #[.int .i64 a0, .int .i64 a1, .int .i64 a2, .int .i64 a3, .bool a4]) w := by kernel_rfl
 refine L_val rfl (fun k e => by cases e; exact hd) (w' := w) ?_ (h _ (Deed.mk_V k0 k1 k2 k3 k4))
 simp only [execOp, List.map_toArray, List.map_cons, List.map_nil, h0, h1, h2, h3, h4, Sem.run_bind, hr, Result.andThen_ok, Sem.run_pure]
theorem L_raw72 {x0 : Operand} {v0 : Value} {a0 : List (List Deed)} {x1 : Operand} {v1 : Value} {a1 : Int} {x2 : Operand} {bat len : Nat} (h0 : ev f x0 = v0) (h1 : ev f x1 = v1) (h2 : ev f x2 = .slice (some ⟨bat, 0, none⟩) len len) (k0 : V s v0 a0) (k1 : V s v1 a1) (hd : d < n)
  (h : L Try.prog n ops Q rest (upd f d (.agg #[v0, v1, .slice (some ⟨bat, 0, none⟩) len len])) w) : L Try.prog n ops Q (⟨some d, .build 72 #[(0, x0), (1, x1), (2, x2)], ty, pos, aft, none⟩ :: rest) f w := by
 obtain ⟨b0, c0, rfl, _⟩ := k0.slice
 obtain rfl := k1.int
 have hr : (Instr.build 72 #[(0, .slice b0 a0.length c0), (1, .int .i64 a1), (2, .slice (some ⟨bat, 0, none⟩) len len)]).run Try.prog w = .ok (.agg #[.slice b0 a0.length c0, .int .i64 a1, .slice (some ⟨bat, 0, none⟩) len len]) w := by kernel_rfl
 refine L_val rfl (fun k e => by cases e; exact hd) (w' := w) ?_ h
 simp only [execOp, List.map_toArray, List.map_cons, List.map_nil, h0, h1, h2, Sem.run_bind, hr, Result.andThen_ok, Sem.run_pure]
theorem L_raw79 {x0 : Operand} {v0 : Value} {a0 : List (List Deed)} {x1 : Operand} {v1 : Value} {a1 : Int} {x2 : Operand} {bat len : Nat} (h0 : ev f x0 = v0) (h1 : ev f x1 = v1) (h2 : ev f x2 = .slice (some ⟨bat, 0, none⟩) len len) (k0 : V s v0 a0) (k1 : V s v1 a1) (hd : d < n)
  (h : L Try.prog n ops Q rest (upd f d (.agg #[v0, v1, .slice (some ⟨bat, 0, none⟩) len len])) w) : L Try.prog n ops Q (⟨some d, .build 79 #[(0, x0), (1, x1), (2, x2)], ty, pos, aft, none⟩ :: rest) f w := by
 obtain ⟨b0, c0, rfl, _⟩ := k0.slice
 obtain rfl := k1.int
 have hr : (Instr.build 79 #[(0, .slice b0 a0.length c0), (1, .int .i64 a1), (2, .slice (some ⟨bat, 0, none⟩) len len)]).run Try.prog w = .ok (.agg #[.slice b0 a0.length c0, .int .i64 a1, .slice (some ⟨bat, 0, none⟩) len len]) w := by kernel_rfl
 refine L_val rfl (fun k e => by cases e; exact hd) (w' := w) ?_ h
 simp only [execOp, List.map_toArray, List.map_cons, List.map_nil, h0, h1, h2, Sem.run_bind, hr, Result.andThen_ok, Sem.run_pure]
end
theorem flat74 : Flat Deed := by
 rintro s s2 cs x ⟨c0, c1, c2, c3, c4, e, h0, h1, h2, h3, h4⟩
 exact ⟨c0, c1, c2, c3, c4, e, h0, h1, h2, h3, h4⟩
theorem cal9 : Callee Try.prog 9 := ⟨_, Try.func9, by kernel_rfl, by kernel_rfl⟩
theorem cal10 : Callee Try.prog 10 := ⟨_, Try.func10, by kernel_rfl, by kernel_rfl⟩
theorem cal11 : Callee Try.prog 11 := ⟨_, Try.func11, by kernel_rfl, by kernel_rfl⟩
theorem cal12 : Callee Try.prog 12 := ⟨_, Try.func12, by kernel_rfl, by kernel_rfl⟩
theorem cal14 : Callee Try.prog 14 := ⟨_, Try.func14, by kernel_rfl, by kernel_rfl⟩
theorem cal15 : Callee Try.prog 15 := ⟨_, Try.func15, by kernel_rfl, by kernel_rfl⟩
theorem cal16 : Callee Try.prog 16 := ⟨_, Try.func16, by kernel_rfl, by kernel_rfl⟩
theorem cal17 : Callee Try.prog 17 := ⟨_, Try.func17, by kernel_rfl, by kernel_rfl⟩
theorem cal18 : Callee Try.prog 18 := ⟨_, Try.func18, by kernel_rfl, by kernel_rfl⟩
theorem cal19 : Callee Try.prog 19 := ⟨_, Try.func19, by kernel_rfl, by kernel_rfl⟩
theorem cal22 : Callee Try.prog 22 := ⟨_, Try.func22, by kernel_rfl, by kernel_rfl⟩
theorem cal24 : Callee Try.prog 24 := ⟨_, Try.func24, by kernel_rfl, by kernel_rfl⟩
theorem cal25 : Callee Try.prog 25 := ⟨_, Try.func25, by kernel_rfl, by kernel_rfl⟩
theorem cal27 : Callee Try.prog 27 := ⟨_, Try.func27, by kernel_rfl, by kernel_rfl⟩
theorem cal28 : Callee Try.prog 28 := ⟨_, Try.func28, by kernel_rfl, by kernel_rfl⟩
theorem cal29 : Callee Try.prog 29 := ⟨_, Try.func29, by kernel_rfl, by kernel_rfl⟩
theorem cal30 : Callee Try.prog 30 := ⟨_, Try.func30, by kernel_rfl, by kernel_rfl⟩
theorem cal31 : Callee Try.prog 31 := ⟨_, Try.func31, by kernel_rfl, by kernel_rfl⟩
theorem cal32 : Callee Try.prog 32 := ⟨_, Try.func32, by kernel_rfl, by kernel_rfl⟩
theorem cal33 : Callee Try.prog 33 := ⟨_, Try.func33, by kernel_rfl, by kernel_rfl⟩
theorem cal34 : Callee Try.prog 34 := ⟨_, Try.func34, by kernel_rfl, by kernel_rfl⟩
theorem cal35 : Callee Try.prog 35 := ⟨_, Try.func35, by kernel_rfl, by kernel_rfl⟩
theorem cal36 : Callee Try.prog 36 := ⟨_, Try.func36, by kernel_rfl, by kernel_rfl⟩
theorem cal37 : Callee Try.prog 37 := ⟨_, Try.func37, by kernel_rfl, by kernel_rfl⟩
theorem cal38 : Callee Try.prog 38 := ⟨_, Try.func38, by kernel_rfl, by kernel_rfl⟩
theorem cal40 : Callee Try.prog 40 := ⟨_, Try.func40, by kernel_rfl, by kernel_rfl⟩
theorem cal41 : Callee Try.prog 41 := ⟨_, Try.func41, by kernel_rfl, by kernel_rfl⟩
theorem cal42 : Callee Try.prog 42 := ⟨_, Try.func42, by kernel_rfl, by kernel_rfl⟩
theorem cal43 : Callee Try.prog 43 := ⟨_, Try.func43, by kernel_rfl, by kernel_rfl⟩
theorem cal44 : Callee Try.prog 44 := ⟨_, Try.func44, by kernel_rfl, by kernel_rfl⟩
theorem cal45 : Callee Try.prog 45 := ⟨_, Try.func45, by kernel_rfl, by kernel_rfl⟩
theorem cal46 : Callee Try.prog 46 := ⟨_, Try.func46, by kernel_rfl, by kernel_rfl⟩
theorem cal47 : Callee Try.prog 47 := ⟨_, Try.func47, by kernel_rfl, by kernel_rfl⟩
theorem cal48 : Callee Try.prog 48 := ⟨_, Try.func48, by kernel_rfl, by kernel_rfl⟩
theorem cal49 : Callee Try.prog 49 := ⟨_, Try.func49, by kernel_rfl, by kernel_rfl⟩
theorem cal50 : Callee Try.prog 50 := ⟨_, Try.func50, by kernel_rfl, by kernel_rfl⟩
theorem cal51 : Callee Try.prog 51 := ⟨_, Try.func51, by kernel_rfl, by kernel_rfl⟩
theorem cal52 : Callee Try.prog 52 := ⟨_, Try.func52, by kernel_rfl, by kernel_rfl⟩
theorem cal53 : Callee Try.prog 53 := ⟨_, Try.func53, by kernel_rfl, by kernel_rfl⟩
theorem cal54 : Callee Try.prog 54 := ⟨_, Try.func54, by kernel_rfl, by kernel_rfl⟩
theorem cal55 : Callee Try.prog 55 := ⟨_, Try.func55, by kernel_rfl, by kernel_rfl⟩
theorem cal56 : Callee Try.prog 56 := ⟨_, Try.func56, by kernel_rfl, by kernel_rfl⟩
theorem cal57 : Callee Try.prog 57 := ⟨_, Try.func57, by kernel_rfl, by kernel_rfl⟩
theorem cal58 : Callee Try.prog 58 := ⟨_, Try.func58, by kernel_rfl, by kernel_rfl⟩
theorem cal59 : Callee Try.prog 59 := ⟨_, Try.func59, by kernel_rfl, by kernel_rfl⟩
theorem cal60 : Callee Try.prog 60 := ⟨_, Try.func60, by kernel_rfl, by kernel_rfl⟩
theorem cal61 : Callee Try.prog 61 := ⟨_, Try.func61, by kernel_rfl, by kernel_rfl⟩
theorem cal62 : Callee Try.prog 62 := ⟨_, Try.func62, by kernel_rfl, by kernel_rfl⟩
theorem cal63 : Callee Try.prog 63 := ⟨_, Try.func63, by kernel_rfl, by kernel_rfl⟩
theorem cal64 : Callee Try.prog 64 := ⟨_, Try.func64, by kernel_rfl, by kernel_rfl⟩
theorem cal65 : Callee Try.prog 65 := ⟨_, Try.func65, by kernel_rfl, by kernel_rfl⟩
theorem cal66 : Callee Try.prog 66 := ⟨_, Try.func66, by kernel_rfl, by kernel_rfl⟩
theorem cal67 : Callee Try.prog 67 := ⟨_, Try.func67, by kernel_rfl, by kernel_rfl⟩
theorem cal68 : Callee Try.prog 68 := ⟨_, Try.func68, by kernel_rfl, by kernel_rfl⟩
theorem cal69 : Callee Try.prog 69 := ⟨_, Try.func69, by kernel_rfl, by kernel_rfl⟩
theorem cal70 : Callee Try.prog 70 := ⟨_, Try.func70, by kernel_rfl, by kernel_rfl⟩
theorem cal71 : Callee Try.prog 71 := ⟨_, Try.func71, by kernel_rfl, by kernel_rfl⟩
theorem cal72 : Callee Try.prog 72 := ⟨_, Try.func72, by kernel_rfl, by kernel_rfl⟩
theorem cal73 : Callee Try.prog 73 := ⟨_, Try.func73, by kernel_rfl, by kernel_rfl⟩
theorem cal74 : Callee Try.prog 74 := ⟨_, Try.func74, by kernel_rfl, by kernel_rfl⟩
theorem cal75 : Callee Try.prog 75 := ⟨_, Try.func75, by kernel_rfl, by kernel_rfl⟩
theorem cal76 : Callee Try.prog 76 := ⟨_, Try.func76, by kernel_rfl, by kernel_rfl⟩
theorem cal77 : Callee Try.prog 77 := ⟨_, Try.func77, by kernel_rfl, by kernel_rfl⟩
theorem cal78 : Callee Try.prog 78 := ⟨_, Try.func78, by kernel_rfl, by kernel_rfl⟩
theorem cal79 : Callee Try.prog 79 := ⟨_, Try.func79, by kernel_rfl, by kernel_rfl⟩
theorem cal80 : Callee Try.prog 80 := ⟨_, Try.func80, by kernel_rfl, by kernel_rfl⟩
theorem cal81 : Callee Try.prog 81 := ⟨_, Try.func81, by kernel_rfl, by kernel_rfl⟩
theorem cal82 : Callee Try.prog 82 := ⟨_, Try.func82, by kernel_rfl, by kernel_rfl⟩
theorem cal83 : Callee Try.prog 83 := ⟨_, Try.func83, by kernel_rfl, by kernel_rfl⟩
theorem cal84 : Callee Try.prog 84 := ⟨_, Try.func84, by kernel_rfl, by kernel_rfl⟩
theorem cal85 : Callee Try.prog 85 := ⟨_, Try.func85, by kernel_rfl, by kernel_rfl⟩
theorem cal86 : Callee Try.prog 86 := ⟨_, Try.func86, by kernel_rfl, by kernel_rfl⟩
theorem cal87 : Callee Try.prog 87 := ⟨_, Try.func87, by kernel_rfl, by kernel_rfl⟩
theorem cal88 : Callee Try.prog 88 := ⟨_, Try.func88, by kernel_rfl, by kernel_rfl⟩

end Go.Arm
