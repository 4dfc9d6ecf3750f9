/- A part of the proof. -/
import Derived.Test.YtdaedcoolcicoaaPure
namespace Go.Arm
open Go Go.RowKit Go.Proofs
variable {σ : Type}
theorem math_bits_Mul64_ok (N : Nat) (s0 : St) (a0 : U64) (a1 : U64) (r : U64 × U64) (hr : math_bits_Mul64 N a0 a1 = some r) :
    Calls Try.prog 78 #[.int .u64 a0.n, .int .u64 a1.n] s0.w (Ret s0 fun v s => ∃ a b, v = .tuple #[a, b] ∧ V s a r.1 ∧ V s b r.2) := by
 unfold math_bits_Mul64 at hr
 have j0 := Ext.refl s0
 refine Calls_of (n := 51) (args := [.int .u64 a0.n, .int .u64 a1.n]) Try.func78 rfl rfl (by simp) (sr (asg (rv (Value.int .u64 ((⟨0⟩ : U64)).n)) (asg (rv (Value.int .u64 ((⟨0⟩ : U64)).n)) (nn (sr (mv (rv (Value.int .u64 (a0).n)) (L_andK (rv (Value.int .u64 (a0).n)) (rv (Value.int .u64 ((⟨4294967295⟩ : U64)).n)) (by decide) (asg (rv (Value.int .u64 ((⟨andK .u64 a0.n (⟨4294967295⟩ : U64).n⟩ : U64)).n)) (nn (sr (mv (rv (Value.int .u64 (a0).n)) ?_)))))))))))
 obtain ⟨j1, hr⟩ := chk_some hr
 refine L_shrK (rv (Value.int .u64 (a0).n)) (rv (Value.int .u64 ((⟨32⟩ : U64)).n)) j1 (by decide) (asg (rv (Value.int .u64 ((⟨shrK .u64 a0.n (⟨32⟩ : U64).n⟩ : U64)).n)) (nn (sr (mv (rv (Value.int .u64 (a1).n)) (L_andK (rv (Value.int .u64 (a1).n)) (rv (Value.int .u64 ((⟨4294967295⟩ : U64)).n)) (by decide) (asg (rv (Value.int .u64 ((⟨andK .u64 a1.n (⟨4294967295⟩ : U64).n⟩ : U64)).n)) (nn (sr (mv (rv (Value.int .u64 (a1).n)) ?_)))))))))
 obtain ⟨j2, hr⟩ := chk_some hr
 refine L_shrK (rv (Value.int .u64 (a1).n)) (rv (Value.int .u64 ((⟨32⟩ : U64)).n)) j2 (by decide) (asg (rv (Value.int .u64 ((⟨shrK .u64 a1.n (⟨32⟩ : U64).n⟩ : U64)).n)) (nn (sr (mv (rv (Value.int .u64 ((⟨andK .u64 a0.n (⟨4294967295⟩ : U64).n⟩ : U64)).n)) (mv (rv (Value.int .u64 ((⟨andK .u64 a1.n (⟨4294967295⟩ : U64).n⟩ : U64)).n)) (L_mulK (rv (Value.int .u64 ((⟨andK .u64 a0.n (⟨4294967295⟩ : U64).n⟩ : U64)).n)) (rv (Value.int .u64 ((⟨andK .u64 a1.n (⟨4294967295⟩ : U64).n⟩ : U64)).n)) (by decide) (asg (rv (Value.int .u64 ((⟨mulK .u64 (⟨andK .u64 a0.n (⟨4294967295⟩ : U64).n⟩ : U64).n (⟨andK .u64 a1.n (⟨4294967295⟩ : U64).n⟩ : U64).n⟩ : U64)).n)) (nn (sr (mv (rv (Value.int .u64 ((⟨shrK .u64 a0.n (⟨32⟩ : U64).n⟩ : U64)).n)) (mv (rv (Value.int .u64 ((⟨andK .u64 a1.n (⟨4294967295⟩ : U64).n⟩ : U64)).n)) (L_mulK (rv (Value.int .u64 ((⟨shrK .u64 a0.n (⟨32⟩ : U64).n⟩ : U64)).n)) (rv (Value.int .u64 ((⟨andK .u64 a1.n (⟨4294967295⟩ : U64).n⟩ : U64)).n)) (by decide) (mv (rv (Value.int .u64 ((⟨mulK .u64 (⟨andK .u64 a0.n (⟨4294967295⟩ : U64).n⟩ : U64).n (⟨andK .u64 a1.n (⟨4294967295⟩ : U64).n⟩ : U64).n⟩ : U64)).n)) ?_)))))))))))))
 obtain ⟨j3, hr⟩ := chk_some hr
 refine L_shrK (rv (Value.int .u64 ((⟨mulK .u64 (⟨andK .u64 a0.n (⟨4294967295⟩ : U64).n⟩ : U64).n (⟨andK .u64 a1.n (⟨4294967295⟩ : U64).n⟩ : U64).n⟩ : U64)).n)) (rv (Value.int .u64 ((⟨32⟩ : U64)).n)) j3 (by decide) (L_addK (rv (Value.int .u64 ((⟨mulK .u64 (⟨shrK .u64 a0.n (⟨32⟩ : U64).n⟩ : U64).n (⟨andK .u64 a1.n (⟨4294967295⟩ : U64).n⟩ : U64).n⟩ : U64)).n)) (rfl : _ = Value.int .u64 ((⟨shrK .u64 (⟨mulK .u64 (⟨andK .u64 a0.n (⟨4294967295⟩ : U64).n⟩ : U64).n (⟨andK .u64 a1.n (⟨4294967295⟩ : U64).n⟩ : U64).n⟩ : U64).n (⟨32⟩ : U64).n⟩ : U64)).n) (by decide) (asg (rfl : _ = Value.int .u64 ((⟨addK .u64 (⟨mulK .u64 (⟨shrK .u64 a0.n (⟨32⟩ : U64).n⟩ : U64).n (⟨andK .u64 a1.n (⟨4294967295⟩ : U64).n⟩ : U64).n⟩ : U64).n (⟨shrK .u64 (⟨mulK .u64 (⟨andK .u64 a0.n (⟨4294967295⟩ : U64).n⟩ : U64).n (⟨andK .u64 a1.n (⟨4294967295⟩ : U64).n⟩ : U64).n⟩ : U64).n (⟨32⟩ : U64).n⟩ : U64).n⟩ : U64)).n) (nn (sr (mv (rfl : _ = Value.int .u64 ((⟨addK .u64 (⟨mulK .u64 (⟨shrK .u64 a0.n (⟨32⟩ : U64).n⟩ : U64).n (⟨andK .u64 a1.n (⟨4294967295⟩ : U64).n⟩ : U64).n⟩ : U64).n (⟨shrK .u64 (⟨mulK .u64 (⟨andK .u64 a0.n (⟨4294967295⟩ : U64).n⟩ : U64).n (⟨andK .u64 a1.n (⟨4294967295⟩ : U64).n⟩ : U64).n⟩ : U64).n (⟨32⟩ : U64).n⟩ : U64).n⟩ : U64)).n) (L_andK (rfl : _ = Value.int .u64 ((⟨addK .u64 (⟨mulK .u64 (⟨shrK .u64 a0.n (⟨32⟩ : U64).n⟩ : U64).n (⟨andK .u64 a1.n (⟨4294967295⟩ : U64).n⟩ : U64).n⟩ : U64).n (⟨shrK .u64 (⟨mulK .u64 (⟨andK .u64 a0.n (⟨4294967295⟩ : U64).n⟩ : U64).n (⟨andK .u64 a1.n (⟨4294967295⟩ : U64).n⟩ : U64).n⟩ : U64).n (⟨32⟩ : U64).n⟩ : U64).n⟩ : U64)).n) (rv (Value.int .u64 ((⟨4294967295⟩ : U64)).n)) (by decide) (asg (rfl : _ = Value.int .u64 ((⟨andK .u64 (⟨addK .u64 (⟨mulK .u64 (⟨shrK .u64 a0.n (⟨32⟩ : U64).n⟩ : U64).n (⟨andK .u64 a1.n (⟨4294967295⟩ : U64).n⟩ : U64).n⟩ : U64).n (⟨shrK .u64 (⟨mulK .u64 (⟨andK .u64 a0.n (⟨4294967295⟩ : U64).n⟩ : U64).n (⟨andK .u64 a1.n (⟨4294967295⟩ : U64).n⟩ : U64).n⟩ : U64).n (⟨32⟩ : U64).n⟩ : U64).n⟩ : U64).n (⟨4294967295⟩ : U64).n⟩ : U64)).n) (nn (sr (mv (rfl : _ = Value.int .u64 ((⟨addK .u64 (⟨mulK .u64 (⟨shrK .u64 a0.n (⟨32⟩ : U64).n⟩ : U64).n (⟨andK .u64 a1.n (⟨4294967295⟩ : U64).n⟩ : U64).n⟩ : U64).n (⟨shrK .u64 (⟨mulK .u64 (⟨andK .u64 a0.n (⟨4294967295⟩ : U64).n⟩ : U64).n (⟨andK .u64 a1.n (⟨4294967295⟩ : U64).n⟩ : U64).n⟩ : U64).n (⟨32⟩ : U64).n⟩ : U64).n⟩ : U64)).n) ?_))))))))))
 obtain ⟨j4, hr⟩ := chk_some hr
 refine L_shrK (rfl : _ = Value.int .u64 ((⟨addK .u64 (⟨mulK .u64 (⟨shrK .u64 a0.n (⟨32⟩ : U64).n⟩ : U64).n (⟨andK .u64 a1.n (⟨4294967295⟩ : U64).n⟩ : U64).n⟩ : U64).n (⟨shrK .u64 (⟨mulK .u64 (⟨andK .u64 a0.n (⟨4294967295⟩ : U64).n⟩ : U64).n (⟨andK .u64 a1.n (⟨4294967295⟩ : U64).n⟩ : U64).n⟩ : U64).n (⟨32⟩ : U64).n⟩ : U64).n⟩ : U64)).n) (rv (Value.int .u64 ((⟨32⟩ : U64)).n)) j4 (by decide) (asg (rfl : _ = Value.int .u64 ((⟨shrK .u64 (⟨addK .u64 (⟨mulK .u64 (⟨shrK .u64 a0.n (⟨32⟩ : U64).n⟩ : U64).n (⟨andK .u64 a1.n (⟨4294967295⟩ : U64).n⟩ : U64).n⟩ : U64).n (⟨shrK .u64 (⟨mulK .u64 (⟨andK .u64 a0.n (⟨4294967295⟩ : U64).n⟩ : U64).n (⟨andK .u64 a1.n (⟨4294967295⟩ : U64).n⟩ : U64).n⟩ : U64).n (⟨32⟩ : U64).n⟩ : U64).n⟩ : U64).n (⟨32⟩ : U64).n⟩ : U64)).n) (nn (sr (mv (rfl : _ = Value.int .u64 ((⟨andK .u64 (⟨addK .u64 (⟨mulK .u64 (⟨shrK .u64 a0.n (⟨32⟩ : U64).n⟩ : U64).n (⟨andK .u64 a1.n (⟨4294967295⟩ : U64).n⟩ : U64).n⟩ : U64).n (⟨shrK .u64 (⟨mulK .u64 (⟨andK .u64 a0.n (⟨4294967295⟩ : U64).n⟩ : U64).n (⟨andK .u64 a1.n (⟨4294967295⟩ : U64).n⟩ : U64).n⟩ : U64).n (⟨32⟩ : U64).n⟩ : U64).n⟩ : U64).n (⟨4294967295⟩ : U64).n⟩ : U64)).n) (mv (rv (Value.int .u64 ((⟨andK .u64 a0.n (⟨4294967295⟩ : U64).n⟩ : U64)).n)) (mv (rv (Value.int .u64 ((⟨shrK .u64 a1.n (⟨32⟩ : U64).n⟩ : U64)).n)) (L_mulK (rv (Value.int .u64 ((⟨andK .u64 a0.n (⟨4294967295⟩ : U64).n⟩ : U64)).n)) (rv (Value.int .u64 ((⟨shrK .u64 a1.n (⟨32⟩ : U64).n⟩ : U64)).n)) (by decide) (L_addK (rfl : _ = Value.int .u64 ((⟨andK .u64 (⟨addK .u64 (⟨mulK .u64 (⟨shrK .u64 a0.n (⟨32⟩ : U64).n⟩ : U64).n (⟨andK .u64 a1.n (⟨4294967295⟩ : U64).n⟩ : U64).n⟩ : U64).n (⟨shrK .u64 (⟨mulK .u64 (⟨andK .u64 a0.n (⟨4294967295⟩ : U64).n⟩ : U64).n (⟨andK .u64 a1.n (⟨4294967295⟩ : U64).n⟩ : U64).n⟩ : U64).n (⟨32⟩ : U64).n⟩ : U64).n⟩ : U64).n (⟨4294967295⟩ : U64).n⟩ : U64)).n) (rv (Value.int .u64 ((⟨mulK .u64 (⟨andK .u64 a0.n (⟨4294967295⟩ : U64).n⟩ : U64).n (⟨shrK .u64 a1.n (⟨32⟩ : U64).n⟩ : U64).n⟩ : U64)).n)) (by decide) (asg (rfl : _ = Value.int .u64 ((⟨addK .u64 (⟨andK .u64 (⟨addK .u64 (⟨mulK .u64 (⟨shrK .u64 a0.n (⟨32⟩ : U64).n⟩ : U64).n (⟨andK .u64 a1.n (⟨4294967295⟩ : U64).n⟩ : U64).n⟩ : U64).n (⟨shrK .u64 (⟨mulK .u64 (⟨andK .u64 a0.n (⟨4294967295⟩ : U64).n⟩ : U64).n (⟨andK .u64 a1.n (⟨4294967295⟩ : U64).n⟩ : U64).n⟩ : U64).n (⟨32⟩ : U64).n⟩ : U64).n⟩ : U64).n (⟨4294967295⟩ : U64).n⟩ : U64).n (⟨mulK .u64 (⟨andK .u64 a0.n (⟨4294967295⟩ : U64).n⟩ : U64).n (⟨shrK .u64 a1.n (⟨32⟩ : U64).n⟩ : U64).n⟩ : U64).n⟩ : U64)).n) (nn (sr (mv (rv (Value.int .u64 ((⟨shrK .u64 a0.n (⟨32⟩ : U64).n⟩ : U64)).n)) (mv (rv (Value.int .u64 ((⟨shrK .u64 a1.n (⟨32⟩ : U64).n⟩ : U64)).n)) ?_)))))))))))))
 refine L_mulK (rv (Value.int .u64 ((⟨shrK .u64 a0.n (⟨32⟩ : U64).n⟩ : U64)).n)) (rv (Value.int .u64 ((⟨shrK .u64 a1.n (⟨32⟩ : U64).n⟩ : U64)).n)) (by decide) (mv (rfl : _ = Value.int .u64 ((⟨shrK .u64 (⟨addK .u64 (⟨mulK .u64 (⟨shrK .u64 a0.n (⟨32⟩ : U64).n⟩ : U64).n (⟨andK .u64 a1.n (⟨4294967295⟩ : U64).n⟩ : U64).n⟩ : U64).n (⟨shrK .u64 (⟨mulK .u64 (⟨andK .u64 a0.n (⟨4294967295⟩ : U64).n⟩ : U64).n (⟨andK .u64 a1.n (⟨4294967295⟩ : U64).n⟩ : U64).n⟩ : U64).n (⟨32⟩ : U64).n⟩ : U64).n⟩ : U64).n (⟨32⟩ : U64).n⟩ : U64)).n) (L_addK (rv (Value.int .u64 ((⟨mulK .u64 (⟨shrK .u64 a0.n (⟨32⟩ : U64).n⟩ : U64).n (⟨shrK .u64 a1.n (⟨32⟩ : U64).n⟩ : U64).n⟩ : U64)).n)) (rfl : _ = Value.int .u64 ((⟨shrK .u64 (⟨addK .u64 (⟨mulK .u64 (⟨shrK .u64 a0.n (⟨32⟩ : U64).n⟩ : U64).n (⟨andK .u64 a1.n (⟨4294967295⟩ : U64).n⟩ : U64).n⟩ : U64).n (⟨shrK .u64 (⟨mulK .u64 (⟨andK .u64 a0.n (⟨4294967295⟩ : U64).n⟩ : U64).n (⟨andK .u64 a1.n (⟨4294967295⟩ : U64).n⟩ : U64).n⟩ : U64).n (⟨32⟩ : U64).n⟩ : U64).n⟩ : U64).n (⟨32⟩ : U64).n⟩ : U64)).n) (by decide) (mv (rfl : _ = Value.int .u64 ((⟨addK .u64 (⟨andK .u64 (⟨addK .u64 (⟨mulK .u64 (⟨shrK .u64 a0.n (⟨32⟩ : U64).n⟩ : U64).n (⟨andK .u64 a1.n (⟨4294967295⟩ : U64).n⟩ : U64).n⟩ : U64).n (⟨shrK .u64 (⟨mulK .u64 (⟨andK .u64 a0.n (⟨4294967295⟩ : U64).n⟩ : U64).n (⟨andK .u64 a1.n (⟨4294967295⟩ : U64).n⟩ : U64).n⟩ : U64).n (⟨32⟩ : U64).n⟩ : U64).n⟩ : U64).n (⟨4294967295⟩ : U64).n⟩ : U64).n (⟨mulK .u64 (⟨andK .u64 a0.n (⟨4294967295⟩ : U64).n⟩ : U64).n (⟨shrK .u64 a1.n (⟨32⟩ : U64).n⟩ : U64).n⟩ : U64).n⟩ : U64)).n) ?_)))
 obtain ⟨j5, hr⟩ := chk_some hr
 refine L_shrK (rfl : _ = Value.int .u64 ((⟨addK .u64 (⟨andK .u64 (⟨addK .u64 (⟨mulK .u64 (⟨shrK .u64 a0.n (⟨32⟩ : U64).n⟩ : U64).n (⟨andK .u64 a1.n (⟨4294967295⟩ : U64).n⟩ : U64).n⟩ : U64).n (⟨shrK .u64 (⟨mulK .u64 (⟨andK .u64 a0.n (⟨4294967295⟩ : U64).n⟩ : U64).n (⟨andK .u64 a1.n (⟨4294967295⟩ : U64).n⟩ : U64).n⟩ : U64).n (⟨32⟩ : U64).n⟩ : U64).n⟩ : U64).n (⟨4294967295⟩ : U64).n⟩ : U64).n (⟨mulK .u64 (⟨andK .u64 a0.n (⟨4294967295⟩ : U64).n⟩ : U64).n (⟨shrK .u64 a1.n (⟨32⟩ : U64).n⟩ : U64).n⟩ : U64).n⟩ : U64)).n) (rv (Value.int .u64 ((⟨32⟩ : U64)).n)) j5 (by decide) (L_addK (rfl : _ = Value.int .u64 ((⟨addK .u64 (⟨mulK .u64 (⟨shrK .u64 a0.n (⟨32⟩ : U64).n⟩ : U64).n (⟨shrK .u64 a1.n (⟨32⟩ : U64).n⟩ : U64).n⟩ : U64).n (⟨shrK .u64 (⟨addK .u64 (⟨mulK .u64 (⟨shrK .u64 a0.n (⟨32⟩ : U64).n⟩ : U64).n (⟨andK .u64 a1.n (⟨4294967295⟩ : U64).n⟩ : U64).n⟩ : U64).n (⟨shrK .u64 (⟨mulK .u64 (⟨andK .u64 a0.n (⟨4294967295⟩ : U64).n⟩ : U64).n (⟨andK .u64 a1.n (⟨4294967295⟩ : U64).n⟩ : U64).n⟩ : U64).n (⟨32⟩ : U64).n⟩ : U64).n⟩ : U64).n (⟨32⟩ : U64).n⟩ : U64).n⟩ : U64)).n) (rfl : _ = Value.int .u64 ((⟨shrK .u64 (⟨addK .u64 (⟨andK .u64 (⟨addK .u64 (⟨mulK .u64 (⟨shrK .u64 a0.n (⟨32⟩ : U64).n⟩ : U64).n (⟨andK .u64 a1.n (⟨4294967295⟩ : U64).n⟩ : U64).n⟩ : U64).n (⟨shrK .u64 (⟨mulK .u64 (⟨andK .u64 a0.n (⟨4294967295⟩ : U64).n⟩ : U64).n (⟨andK .u64 a1.n (⟨4294967295⟩ : U64).n⟩ : U64).n⟩ : U64).n (⟨32⟩ : U64).n⟩ : U64).n⟩ : U64).n (⟨4294967295⟩ : U64).n⟩ : U64).n (⟨mulK .u64 (⟨andK .u64 a0.n (⟨4294967295⟩ : U64).n⟩ : U64).n (⟨shrK .u64 a1.n (⟨32⟩ : U64).n⟩ : U64).n⟩ : U64).n⟩ : U64).n (⟨32⟩ : U64).n⟩ : U64)).n) (by decide) (asg (rfl : _ = Value.int .u64 ((⟨addK .u64 (⟨addK .u64 (⟨mulK .u64 (⟨shrK .u64 a0.n (⟨32⟩ : U64).n⟩ : U64).n (⟨shrK .u64 a1.n (⟨32⟩ : U64).n⟩ : U64).n⟩ : U64).n (⟨shrK .u64 (⟨addK .u64 (⟨mulK .u64 (⟨shrK .u64 a0.n (⟨32⟩ : U64).n⟩ : U64).n (⟨andK .u64 a1.n (⟨4294967295⟩ : U64).n⟩ : U64).n⟩ : U64).n (⟨shrK .u64 (⟨mulK .u64 (⟨andK .u64 a0.n (⟨4294967295⟩ : U64).n⟩ : U64).n (⟨andK .u64 a1.n (⟨4294967295⟩ : U64).n⟩ : U64).n⟩ : U64).n (⟨32⟩ : U64).n⟩ : U64).n⟩ : U64).n (⟨32⟩ : U64).n⟩ : U64).n⟩ : U64).n (⟨shrK .u64 (⟨addK .u64 (⟨andK .u64 (⟨addK .u64 (⟨mulK .u64 (⟨shrK .u64 a0.n (⟨32⟩ : U64).n⟩ : U64).n (⟨andK .u64 a1.n (⟨4294967295⟩ : U64).n⟩ : U64).n⟩ : U64).n (⟨shrK .u64 (⟨mulK .u64 (⟨andK .u64 a0.n (⟨4294967295⟩ : U64).n⟩ : U64).n (⟨andK .u64 a1.n (⟨4294967295⟩ : U64).n⟩ : U64).n⟩ : U64).n (⟨32⟩ : U64).n⟩ : U64).n⟩ : U64).n (⟨4294967295⟩ : U64).n⟩ : U64).n (⟨mulK .u64 (⟨andK .u64 a0.n (⟨4294967295⟩ : U64).n⟩ : U64).n (⟨shrK .u64 a1.n (⟨32⟩ : U64).n⟩ : U64).n⟩ : U64).n⟩ : U64).n (⟨32⟩ : U64).n⟩ : U64).n⟩ : U64)).n) (nn (sr (mv (rv (Value.int .u64 (a0).n)) (mv (rv (Value.int .u64 (a1).n)) (L_mulK (rv (Value.int .u64 (a0).n)) (rv (Value.int .u64 (a1).n)) (by decide) (asg (rv (Value.int .u64 ((⟨mulK .u64 a0.n a1.n⟩ : U64)).n)) (nn (W_ret ?_))))))))))
 obtain rfl := Option.some.inj hr
 exact done2 (Or.inl rfl) Try.results78 rfl rfl ⟨_, _, rfl, rfl, j0, _, _, rfl, Vu64, Vu64⟩

theorem math_bits_Mul_ok (N : Nat) (s0 : St) (a0 : U64) (a1 : U64) (r : U64 × U64) (hr : math_bits_Mul N a0 a1 = some r) :
    Calls Try.prog 87 #[.int .u64 a0.n, .int .u64 a1.n] s0.w (Ret s0 fun v s => ∃ a b, v = .tuple #[a, b] ∧ V s a r.1 ∧ V s b r.2) := by
 unfold math_bits_Mul at hr
 have j0 := Ext.refl s0
 refine Calls_of (n := 30) (args := [.int .u64 a0.n, .int .u64 a1.n]) Try.func87 rfl rfl (by simp) (sr (asg (rv (Value.int .u64 ((⟨0⟩ : U64)).n)) (asg (rv (Value.int .u64 ((⟨0⟩ : U64)).n)) (nn (W_seq ?_)))))
 refine W_cond _ (rv (vb false)) (fun h => absurd (h.symm.trans rfl) (by decide)) (fun _ => ?_)
 refine W_skip (then_n (sr (mv (rv (Value.int .u64 (a0).n)) (mv (rv (Value.int .u64 (a1).n)) ?_))))
 obtain ⟨j1, j2, hr⟩ := bind_some hr
 refine L_calls cal78 (args2 (rv (Value.int .u64 (a0).n)) (rv (Value.int .u64 (a1).n))) (math_bits_Mul64_ok N _ a0 a1 j1 j2) (by decide) (fun j3 j4 j5 j6 => ?_)
 have j7 := Tch.ext j0 j5
 obtain ⟨j8, j9, rfl, ja, jb⟩ := j6
 obtain rfl := ja.u64
 obtain rfl := jb.u64
 refine mv (rv (Value.tuple #[Value.int .u64 (j1.1).n, Value.int .u64 (j1.2).n])) (xt (rv (Value.tuple #[Value.int .u64 (j1.1).n, Value.int .u64 (j1.2).n])) (k := 0) rfl (xt (rv (Value.tuple #[Value.int .u64 (j1.1).n, Value.int .u64 (j1.2).n])) (k := 1) rfl (asg (rv (Value.int .u64 (j1.1).n)) (asg (rv (Value.int .u64 (j1.2).n)) (nn (sr (mv (rv (Value.int .u64 (j1.1).n)) (mv (rv (Value.int .u64 (j1.2).n)) (asg (rv (Value.int .u64 (j1.1).n)) (asg (rv (Value.int .u64 (j1.2).n)) (nn (W_ret ?_))))))))))))
 obtain rfl := Option.some.inj hr
 exact done2 (Or.inl rfl) Try.results87 rfl rfl ⟨_, _, rfl, rfl, j7, _, _, rfl, Vu64, Vu64⟩

theorem slices_IndexFunc_LLbyte_Lbyte_ok (N : Nat) (s0 : St) (w0 : Value) (a0 : List (List U8)) (h0 : V s0 w0 a0) (w1 : Value) (a1 : (List U8) → Option Bool) (h1 : Fn1 Try.prog s0 w1 a1) (r : Int) (hr : slices_IndexFunc_LLbyte_Lbyte N a0 a1 = some r) :
    Calls Try.prog 66 #[w0, w1] s0.w (Ret s0 fun v s => V s v r) := by
 unfold slices_IndexFunc_LLbyte_Lbyte at hr
 have j0 := Ext.refl s0
 refine Calls_of (n := 19) (args := [w0, w1]) Try.func66 rfl rfl (by simp) (sr (asg (rv (vi 0)) (nn (W_seq (sr (mv (rv w0) (ln Try.underlying24 (rv w0) h0 (mv (rv (vi 0)) (nn ?_)))))))))
 obtain ⟨j1, j2, j3⟩ := bind_some hr
 refine W_cut (fun f w => ∃ (s : St), s.w = w ∧ Ext s0 s ∧ Le s0 s ∧ Sum.inl () = j1) ?_ ?_
 ·refine W_block (W_loop (fun m f w => ∃ (s : St) (j4 : Int), s.w = w ∧ Ext s0 s ∧ Le s0 s ∧ slices_IndexFunc_LLbyte_Lbyte_l1 N a0 a1 m j4 = some j1 ∧ f 8 = vi j4 ∧ f 0 = w0 ∧ f 1 = w1 ∧ f 7 = vi ((a0.length : Int))) N ⟨s0, 0, rfl, j0, (Le.refl _), j2, rfl, rfl, rfl, rfl⟩ ?_)
  rintro j5 j6 j7 ⟨j8, j4, rfl, j9, ja, hr, jb, jc, jd, je⟩
  cases j5 with
  | zero => exact absurd hr (by simp [slices_IndexFunc_LLbyte_Lbyte_l1])
  | succ j5 =>
   rw [slices_IndexFunc_LLbyte_Lbyte_l1.eq_2] at hr
   refine sr (ls jb je (nn (W_seq ?_)))
   refine W_cond _ (rv (vb (decide (j4 < (a0.length : Int))))) (fun jf => ?_) (fun jf => ?_)
   ·have hr := ite_t jf hr
    refine W_skip (then_n (W_seq (W_block (sr (mv jb (asg (rv (vi j4)) (nn (sr (mv jd (mv jc (mv (rv (vi j4)) ?_)))))))))))
    obtain ⟨jg, jh, hr⟩ := bind_some hr
    refine ix Try.underlying24 ty22.inf (rv w0) (h0.mono ja) (rv (vi j4)) jh (fun ji jj => ld ty22 (rv ji) jj (fun jk jl => ?_))
    obtain ⟨jm, jn, hr⟩ := bind_some hr
    refine L_call1 (rv w1) (h1.mono ja) (rv jk) jl jn (by decide) (fun jo jp jq jr => ?_)
    have js := Tch.ext j9 jq
    obtain rfl := jr.bool
    refine nn ?_
    refine W_cond _ (rv (vb jm)) (fun jt => ?_) (fun jt => ?_)
    ·have hr := ite_t jt hr; refine sr (mv (rv (vi j4)) (asg (rv (vi j4)) (nn (W_ret (block_r (then_r (then_r (block_r ?_)))))))); obtain rfl := Option.some.inj hr; have hr := j3; (try dsimp only at hr); refine then_r (then_r ?_); obtain rfl := Option.some.inj hr; exact done1 (Or.inl rfl) Try.results66 rfl ⟨_, _, rfl, rfl, js, Vint⟩
    ·have hr := ite_f jt hr; refine W_skip (block_n (then_n (W_region ?_))); obtain ⟨ju, hr⟩ := chk_some hr; exact ad jb (rv (vi 1)) ju (mv (rv (vi (j4 + 1))) (nn ⟨j5, Nat.lt_succ_self _, ⟨jp, (j4 + 1), rfl, js, (ja.trans jq.le), hr, rfl, jc, jd, je⟩⟩))
   ·have hr := ite_f jf hr; refine W_exit (then_x (then_x (block_here ?_))); exact then_n ⟨j8, rfl, j9, ja, Option.some.inj hr⟩
 ·rintro j4 j5 ⟨j6, rfl, j7, j8, j2⟩; subst j2; have hr := j3; (try dsimp only at hr); refine then_n (sr (asg (rv (vi (-1))) (nn (W_ret ?_)))); obtain rfl := Option.some.inj hr; exact done1 (Or.inl rfl) Try.results66 rfl ⟨_, _, rfl, rfl, j7, Vint⟩

theorem slices_ContainsFunc_LLbyte_Lbyte_ok (N : Nat) (s0 : St) (w0 : Value) (a0 : List (List U8)) (h0 : V s0 w0 a0) (w1 : Value) (a1 : (List U8) → Option Bool) (h1 : Fn1 Try.prog s0 w1 a1) (r : Bool) (hr : slices_ContainsFunc_LLbyte_Lbyte N a0 a1 = some r) :
    Calls Try.prog 63 #[w0, w1] s0.w (Ret s0 fun v s => V s v r) := by
 unfold slices_ContainsFunc_LLbyte_Lbyte at hr
 have j0 := Ext.refl s0
 refine Calls_of (n := 9) (args := [w0, w1]) Try.func63 rfl rfl (by simp) (sr (asg (rv (vb false)) (nn (sr (mv (rv w0) (mv (rv w1) ?_))))))
 obtain ⟨j1, j2, hr⟩ := bind_some hr
 refine L_calls cal66 (args2 (rv w0) (rv w1)) (slices_IndexFunc_LLbyte_Lbyte_ok N _ _ _ h0 _ a1 h1 j1 j2) (by decide) (fun j3 j4 j5 j6 => ?_)
 have j7 := Tch.ext j0 j5
 obtain rfl := j6.int
 refine L_geq (rv (vi j1)) (rv (vi 0)) (by decide) (asg (rv (vb (decide (0 ≤ j1)))) (nn (W_ret ?_)))
 obtain rfl := Option.some.inj hr
 exact done1 (Or.inl rfl) Try.results63 rfl ⟨_, _, rfl, rfl, j7, Vbool⟩

theorem check_sized_1_ok (N : Nat) (s0 : St) (w0 : Value) (a0 : List U8) (h0 : V s0 w0 a0) (w1 : Value) (a1 : List (List U8)) (h1 : Ptr s0 w1 a1) (r : Bool) (hr : check_sized_1 N a0 a1 = some r) :
    Calls Try.prog 64 #[w0, w1] s0.w (Ret s0 fun v s => V s v r) := by
 unfold check_sized_1 at hr
 have j0 := Ext.refl s0
 refine Calls_of (n := 11) (args := [w0, w1]) Try.func64 rfl rfl (by simp) (sr (asg (rv (vb false)) (nn (sr (mv (rv w0) (ln Try.underlying22 (rv w0) h0 (ld ty24 (rv w1) h1 (fun j1 j2 => ?_))))))))
 obtain ⟨j3, j4, hr⟩ := bind_some hr
 refine ix Try.underlying24 ty22.inf (rv j1) j2 (rv (vi 0)) j4 (fun j5 j6 => ld ty22 (rv j5) j6 (fun j7 j8 => ln Try.underlying22 (rv j7) j8 (ne (rv (vi ((a0.length : Int)))) (rv (vi ((j3.length : Int)))) (asg (rv (vb (!decide ((a0.length : Int) = (j3.length : Int))))) (nn (W_ret ?_))))))
 obtain rfl := Option.some.inj hr
 exact done1 (Or.inl rfl) Try.results64 rfl ⟨_, _, rfl, rfl, j0, Vbool⟩

theorem check_sized_ok (N : Nat) (s0 : St) (w0 : Value) (a0 : List (List U8)) (h0 : V s0 w0 a0) (r : Int) (hr : check_sized N a0 = some r) :
    Calls Try.prog 36 #[w0] s0.w (Ret s0 fun v s => V s v r) := by
 unfold check_sized at hr
 have j0 := Ext.refl s0
 refine Calls_of (n := 13) (args := [w0]) Try.func36 rfl rfl (by simp) (sr (L_box (rv w0) h0 (by decide) (fun j1 j2 j3 j4 => ?_)))
 have j5 := Tch.ext j0 j3
 refine asg (rv (vi 0)) (nn (W_seq (W_block (sr (ld ty24 (rv j2) j4 (fun j6 j7 => ?_))))))
 obtain ⟨j8, j9, hr⟩ := bind_some hr
 refine ix Try.underlying24 ty22.inf (rv j6) j7 (rv (vi 0)) j9 (fun ja jb => ld ty22 (rv ja) jb (fun jc jd => ln Try.underlying22 (rv jc) jd (L_gtr (rv (vi ((j8.length : Int)))) (rv (vi 65536)) (by decide) (asg (rv (vb (decide (65536 < (j8.length : Int))))) (nn ?_)))))
 refine W_cond _ (rv (vb (decide (65536 < (j8.length : Int))))) (fun je => ?_) (fun je => ?_)
 ·have hr := ite_t je hr; refine sr (asg (rv (vi 8)) (nn (W_ret (block_r (then_r ?_))))); obtain rfl := Option.some.inj hr; exact done1 (Or.inl rfl) Try.results36 rfl ⟨_, _, rfl, rfl, j5, Vint⟩
 ·have hr := ite_f je hr
  refine sr (ld ty24 (rv j2) j4 (fun jf jg => L_makeFunc (args1 (rv j2)) (by decide) ?_))
  obtain ⟨jh, ji, hr⟩ := bind_some hr
  refine L_calls cal63 (args2 (rv jf) (rv (Value.func (.func 64) #[] #[j2]))) (slices_ContainsFunc_LLbyte_Lbyte_ok N _ _ _ jg _ (fun x => check_sized_1 N x a0) (Fn1.mk1 cal64 fun t vx x r hl hv hr => check_sized_1_ok N t vx x hv _ _ ((j4).mono hl) r hr) jh ji) (by decide) (fun jj jk jl jm => ?_)
  have jn := Tch.ext j5 jl
  obtain rfl := jm.bool
  refine asg (rv (vb jh)) (nn ?_)
  refine W_cond _ (rv (vb jh)) (fun jo => ?_) (fun jo => ?_)
  ·have hr := ite_t jo hr; refine sr (asg (rv (vi 26)) (nn (W_ret (block_r (then_r ?_))))); obtain rfl := Option.some.inj hr; exact done1 (Or.inl rfl) Try.results36 rfl ⟨_, _, rfl, rfl, jn, Vint⟩
  ·have hr := ite_f jo hr; refine W_skip (block_n (then_n (sr (asg (rv (vi 0)) (nn (W_ret ?_)))))); obtain rfl := Option.some.inj hr; exact done1 (Or.inl rfl) Try.results36 rfl ⟨_, _, rfl, rfl, jn, Vint⟩

theorem check_field_inverse_ok (N : Nat) (s0 : St) (w0 : Value) (a0 : Field) (h0 : Ptr s0 w0 a0) (a1 : U8) (r : U8) (hr : check_field_inverse N a0 a1 = some r) :
    Calls Try.prog 68 #[w0, .int .u8 a1.n] s0.w (Ret s0 fun v s => V s v r) := by
 unfold check_field_inverse at hr
 have j0 := Ext.refl s0
 refine Calls_of (n := 17) (args := [w0, .int .u8 a1.n]) Try.func68 rfl rfl (by simp) (sr (asg (rv (Value.int .u8 ((⟨0⟩ : U8)).n)) (nn (W_seq ?_))))
 obtain ⟨j1, j2, hr⟩ := bind_some hr
 obtain ⟨j3, hr⟩ := chk_some hr
 obtain ⟨j4, j5, hr⟩ := bind_some hr
 refine W_draws mixed (by kernel_rfl) [PV.ptr (a0 : Field), PV.ptr (a0 : Field), PV.eq (Value.int .u8 (a1).n), PV.ptr (a0 : Field), PV.ptr (a0.log : AV 256 Int), PV.ptr (j1 : Int), PV.eq (vi j1), PV.eq (vi (255 - j1)), PV.ptr (a0 : Field), PV.ptr (a0.power : AV 510 U8), PV.ptr (j4 : U8), PV.eq (Value.int .u8 (j4).n), PV.eq (Value.int .u8 (j4).n)] (Steps_cons ?_ (Steps_cons ?_ (Steps_cons ?_ (Steps_cons ?_ (Steps_cons ?_ (Steps_cons ?_ (Steps_cons ?_ (Steps_cons ?_ (Steps_cons ?_ (Steps_cons ?_ (Steps_cons ?_ (Steps_cons ?_ (Steps_cons ?_ Steps_nil))))))))))))) ?_
 ·intro j6 j7 j8 j9 ja Q jb; have jc : j6 0 = w0 := (ja 0 (by kernel_rfl)).trans rfl; exact mv jc (fin jb (h0.mono j8.le))
 ·intro j6 j7 j8 j9 ja Q jb; have jc : j6 0 = w0 := (ja 0 (by kernel_rfl)).trans rfl; exact mv jc (fin jb (h0.mono j8.le))
 ·intro j6 j7 j8 j9 ja Q jb; have jc : j6 1 = Value.int .u8 (a1).n := (ja 1 (by kernel_rfl)).trans rfl; exact mv jc (fin jb rfl)
 ·intro j6 j7 j8 j9 ja Q jb; have jc : Ptr _ (j6 6) (a0 : Field) := j9 1 6 (by kernel_rfl) (by kernel_rfl); obtain ⟨jd, je, jf⟩ : ∃ v, _ = v ∧ Ptr _ v _ := ⟨_, rfl, jc⟩; exact L_nilCheck_ptr je jf (by decide) (fin jb jf)
 ·intro j6 j7 j8 j9 ja Q jb; have jc : Ptr _ (j6 8) (a0 : Field) := j9 3 8 (by kernel_rfl) (by kernel_rfl); obtain ⟨jd, je, jf⟩ : ∃ v, _ = v ∧ Ptr _ v _ := ⟨_, rfl, jc⟩; exact fa fld151_1 Field.of_log je jf (fun jg jh => fin jb jh)
 ·intro j6 j7 j8 j9 ja Q jb; have jc : j6 7 = Value.int .u8 (a1).n := j9 2 7 (by kernel_rfl) (by kernel_rfl); have jd : Ptr _ (j6 9) (a0.log : AV 256 Int) := j9 4 9 (by kernel_rfl) (by kernel_rfl); obtain ⟨je, jf, jg⟩ : ∃ v, _ = v ∧ Ptr _ v _ := ⟨_, rfl, jd⟩; exact L_indexAV Try.underlying149 ty3.inf jf jg jc j2 (by decide) (fun jh ji => fin jb ji)
 ·intro j6 j7 j8 j9 ja Q jb; have jc : Ptr _ (j6 10) (j1 : Int) := j9 5 10 (by kernel_rfl) (by kernel_rfl); obtain ⟨jd, je, jf⟩ : ∃ v, _ = v ∧ Ptr _ v _ := ⟨_, rfl, jc⟩; exact li ty3 je jf (fin jb rfl)
 ·intro j6 j7 j8 j9 ja Q jb; have jc : j6 11 = vi (j1) := j9 6 11 (by kernel_rfl) (by kernel_rfl); exact L_sub (rv (vi 255)) jc j3 (by decide) (fin jb rfl)
 ·intro j6 j7 j8 j9 ja Q jb; have jc : Ptr _ (j6 5) (a0 : Field) := j9 0 5 (by kernel_rfl) (by kernel_rfl); obtain ⟨jd, je, jf⟩ : ∃ v, _ = v ∧ Ptr _ v _ := ⟨_, rfl, jc⟩; exact L_nilCheck_ptr je jf (by decide) (fin jb jf)
 ·intro j6 j7 j8 j9 ja Q jb; have jc : Ptr _ (j6 13) (a0 : Field) := j9 8 13 (by kernel_rfl) (by kernel_rfl); obtain ⟨jd, je, jf⟩ : ∃ v, _ = v ∧ Ptr _ v _ := ⟨_, rfl, jc⟩; exact fa fld151_0 Field.of_power je jf (fun jg jh => fin jb jh)
 ·intro j6 j7 j8 j9 ja Q jb; have jc : j6 12 = vi (255 - j1) := j9 7 12 (by kernel_rfl) (by kernel_rfl); have jd : Ptr _ (j6 14) (a0.power : AV 510 U8) := j9 9 14 (by kernel_rfl) (by kernel_rfl); obtain ⟨je, jf, jg⟩ : ∃ v, _ = v ∧ Ptr _ v _ := ⟨_, rfl, jd⟩; exact L_indexAV Try.underlying148 ty5.inf jf jg jc j5 (by decide) (fun jh ji => fin jb ji)
 ·intro j6 j7 j8 j9 ja Q jb; have jc : Ptr _ (j6 15) (j4 : U8) := j9 10 15 (by kernel_rfl) (by kernel_rfl); obtain ⟨jd, je, jf⟩ : ∃ v, _ = v ∧ Ptr _ v _ := ⟨_, rfl, jc⟩; exact L_load_u8 ty5 je jf (by decide) (fin jb rfl)
 ·intro j6 j7 j8 j9 ja Q jb; have jc : j6 16 = Value.int .u8 (j4).n := j9 11 16 (by kernel_rfl) (by kernel_rfl); exact asg jc (fin jb rfl)
 ·intro j6 j7 j8 j9 ja; have jb := Tch.ext j0 j8; have jc : j6 4 = Value.int .u8 (j4).n := j9 12 4 (by kernel_rfl); refine then_n (W_ret ?_); obtain rfl := Option.some.inj hr; exact done1 (Or.inl rfl) Try.results68 jc ⟨_, _, rfl, rfl, jb, Vu8⟩

theorem check_field_row_ok (N : Nat) (s0 : St) (w0 : Value) (a0 : Field) (h0 : Ptr s0 w0 a0) (a1 : Int) (a2 : Int) (r : (List U8)) (hr : check_field_row N a0 a1 a2 = some r) :
    Calls Try.prog 65 #[w0, .int .i64 a1, .int .i64 a2] s0.w (Ret s0 fun v s => V s v r) := by
 unfold check_field_row at hr
 have j0 := Ext.refl s0
 refine Calls_of (n := 37) (args := [w0, .int .i64 a1, .int .i64 a2]) Try.func65 rfl rfl (by simp) (sr (asg (rv (Value.slice none 0 0)) (nn (sr (mv (rv (vi a2)) ?_)))))
 obtain ⟨j1, hr⟩ := chk_some hr
 refine L_makeArr (x0 := (⟨0⟩ : U8)) Try.underlying22 tyz5 (rv (vi a2)) j1.1 j1.2.1 j1.2.2 (fun _ => rfl) (by decide) (fun j2 j3 j4 j5 j6 => ?_)
 have j7 := Tch.ext j0 j4
 refine asg (rv (Value.slice (some ⟨j3, 0, none⟩) (a2).toNat (a2).toNat)) (nn (W_seq (sr (mv (rv (vi a1)) (mv (rv (vi a2)) (ls (rv (vi a1)) (rv (vi a2)) (nn ?_)))))))
 refine W_cond _ (rv (vb (decide (a1 < a2)))) (fun j8 => ?_) (fun j8 => ?_)
 ·have hr := ite_t j8 hr; refine sr (mv (rv (Value.slice (some ⟨j3, 0, none⟩) (a2).toNat (a2).toNat)) (mv (rv (vi a1)) ?_)); obtain ⟨j9, ja, hr⟩ := bind_some hr; refine L_indexA (sz := 1) Try.underlying22 ty5.inf (rv (Value.slice (some ⟨j3, 0, none⟩) (a2).toNat (a2).toNat)) (rv (vi a1)) (idx_some ja).1 (by have := (idx_some ja).2.1; have := (j6).1; omega) (by decide) (L_storeA (xs := (List.replicate (a2).toNat (⟨0⟩ : U8))) ty5 (rv (Value.pointer (some ⟨j3, (a1).toNat * 1, none⟩))) (rv (Value.int .u8 ((⟨1⟩ : U8)).n)) Vu8 (j6) ja (fun jb jc jd => ?_)); have je := Tch.trans j7 jc (fun k hk => Or.inr (by subst hk; exact (Nat.le_trans j0.size j5))); refine nn (sr (mv (rv (Value.slice (some ⟨j3, 0, none⟩) (a2).toNat (a2).toNat)) (asg (rv (Value.slice (some ⟨j3, 0, none⟩) (a2).toNat (a2).toNat)) (nn (W_ret (then_r ?_)))))); obtain rfl := Option.some.inj hr; obtain ⟨jf, jg, jh, ji⟩ := (jd).freeze; have jj := Tch.trans je jh (fun k hk => Or.inr (by subst hk; exact (Nat.le_trans j0.size j5))); exact done1 (Or.inl rfl) Try.results65 rfl ⟨_, _, rfl, jg, jj, ji⟩
 ·have hr := ite_f j8 hr
  refine W_skip (then_n (W_seq (sr (mv (rv (Value.slice (some ⟨j3, 0, none⟩) (a2).toNat (a2).toNat)) (L_lenA Try.underlying22 (rv (Value.slice (some ⟨j3, 0, none⟩) (a2).toNat (a2).toNat)) (by decide) (mv (rv (vi 0)) (nn ?_)))))))
  obtain ⟨j9, ja, jb⟩ := bind_some hr
  refine W_cut (fun f w => ∃ (s : St) (jc : List U8), s.w = w ∧ Ext s0 s ∧ Le j2 s ∧ jc = j9 ∧ f 7 = Value.slice (some ⟨j3, 0, none⟩) (a2).toNat (a2).toNat ∧ Arr s j3 5 (a2).toNat jc) ?_ ?_
  ·refine W_block (W_loop (fun m f w => ∃ (s : St) (jd : Int) (je : List U8), s.w = w ∧ Ext s0 s ∧ Le j2 s ∧ check_field_row_l1 N a0 a1 a2 m jd je = some j9 ∧ f 20 = vi jd ∧ f 0 = w0 ∧ f 1 = vi (a1) ∧ f 2 = vi (a2) ∧ f 7 = Value.slice (some ⟨j3, 0, none⟩) (a2).toNat (a2).toNat ∧ f 19 = vi ((((a2).toNat : Nat) : Int)) ∧ Arr s j3 5 (a2).toNat je) N ⟨j2, 0, (List.replicate (a2).toNat (⟨0⟩ : U8)), rfl, j7, (Le.refl _), ja, rfl, rfl, rfl, rfl, rfl, rfl, j6⟩ ?_)
   rintro jf jg jh ⟨ji, jd, je, rfl, jj, jk, hr, jl, jm, jn, jo, jp, jq, jr⟩
   cases jf with
   | zero => exact absurd hr (by simp [check_field_row_l1])
   | succ jf =>
    rw [check_field_row_l1.eq_2] at hr
    refine sr (ls jl jq (nn (W_seq ?_)))
    refine W_cond _ (rfl : _ = vb (decide (jd < (((a2).toNat : Nat) : Int)))) (fun js => ?_) (fun js => ?_)
    ·have hr := ite_t js hr; refine W_skip (then_n (W_seq (W_block (sr (mv jl (asg (rv (vi jd)) (nn (W_region (mv jp (mv (rv (vi jd)) (mv jm (mv jn (mv jo ?_))))))))))))); obtain ⟨jt, hr⟩ := chk_some hr; refine L_sub (rv (vi a1)) (rv (vi a2)) jt (by decide) (mv (rv (vi jd)) ?_); obtain ⟨ju, hr⟩ := chk_some hr; refine ad (rv (vi 16)) (rv (vi jd)) ju (L_xorK (rv (vi (a1 - a2))) (rv (vi (16 + jd))) (by decide) (L_convK Try.underlying3 Try.underlying5 (rv (vi (xorK .i64 (a1 - a2) (16 + jd)))) (by decide) ?_)); obtain ⟨jv, jw, hr⟩ := bind_some hr; refine L_calls cal68 (args2 (rv w0) (rv (Value.int .u8 ((⟨convK .u8 (xorK .i64 (a1 - a2) (16 + jd))⟩ : U8)).n))) (check_field_inverse_ok N _ _ _ (h0.mono (j4.le.trans jk)) (⟨convK .u8 (xorK .i64 (a1 - a2) (16 + jd))⟩ : U8) jv jw) (by decide) (fun jx jy jz k0 => ?_); have k1 := Tch.ext jj jz; obtain rfl := k0.u8; obtain ⟨k2, k3, hr⟩ := bind_some hr; refine L_indexA (sz := 1) Try.underlying22 ty5.inf (rv (Value.slice (some ⟨j3, 0, none⟩) (a2).toNat (a2).toNat)) (rv (vi jd)) (idx_some k3).1 (by have := (idx_some k3).2.1; have := ((jr).ext jz).1; omega) (by decide) (L_storeA (xs := je) ty5 (rv (Value.pointer (some ⟨j3, (jd).toNat * 1, none⟩))) (rv (Value.int .u8 (jv).n)) Vu8 ((jr).ext jz) k3 (fun k4 k5 k6 => ?_)); have k7 := Tch.trans k1 k5 (fun k hk => Or.inr (by subst hk; exact (Nat.le_trans j0.size j5))); refine L_nil (block_n (then_n (W_region ?_))); obtain ⟨k8, hr⟩ := chk_some hr; exact ad jl (rv (vi 1)) k8 (mv (rv (vi (jd + 1))) (nn ⟨jf, Nat.lt_succ_self _, ⟨k4, (jd + 1), (je.set (jd).toNat jv), rfl, k7, (jk.trans (jz.le.trans k5.le)), hr, rfl, jm, jn, jo, jp, jq, k6⟩⟩))
    ·have hr := ite_f js hr; refine W_exit (then_x (then_x (block_here ?_))); exact then_n ⟨ji, je, rfl, jj, jk, Option.some.inj hr, jp, jr⟩
  ·rintro jd je ⟨jf, jc, rfl, jg, jh, ja, ji, jj⟩; subst ja; have hr := jb; (try dsimp only at hr); refine then_n (sr (mv ji (asg (rv (Value.slice (some ⟨j3, 0, none⟩) (a2).toNat (a2).toNat)) (nn (W_ret ?_))))); obtain rfl := Option.some.inj hr; obtain ⟨jk, jl, jm, jn⟩ := (jj).freeze; have jo := Tch.trans jg jm (fun k hk => Or.inr (by subst hk; exact (Nat.le_trans j0.size j5))); exact done1 (Or.inl rfl) Try.results65 rfl ⟨_, _, rfl, jl, jo, jn⟩

theorem bytes_Equal_ok (N : Nat) (s0 : St) (w0 : Value) (a0 : List U8) (h0 : V s0 w0 a0) (w1 : Value) (a1 : List U8) (h1 : V s0 w1 a1) (r : Bool) (hr : bytes_Equal N a0 a1 = some r) :
    Calls Try.prog 40 #[w0, w1] s0.w (Ret s0 fun v s => V s v r) := by
 unfold bytes_Equal at hr
 have j0 := Ext.refl s0
 refine Calls_of (n := 10) (args := [w0, w1]) Try.func40 rfl rfl (by simp) (sr (asg (rv (vb false)) (nn (sr (mv (rv w0) (L_b2s Try.underlying22 Try.underlying5 Try.underlying9 (rv w0) h0 (by decide) (mv (rv w1) (L_b2s Try.underlying22 Try.underlying5 Try.underlying9 (rv w1) h1 (by decide) (L_seql (rv (Value.string (txtOf a0).v)) (rv (Value.string (txtOf a1).v)) (by decide) (asg (rv (vb (decide ((txtOf a0) = (txtOf a1))))) (nn (W_ret ?_))))))))))))
 obtain rfl := Option.some.inj hr
 exact done1 (Or.inl rfl) Try.results40 rfl ⟨_, _, rfl, rfl, j0, Vbool⟩

theorem slices_Clone_Lbyte_byte_ok (N : Nat) (s0 : St) (w0 : Value) (a0 : List U8) (h0 : V s0 w0 a0) (r : (List U8)) (hr : slices_Clone_Lbyte_byte N a0 = some r) :
    Calls Try.prog 44 #[w0] s0.w (Ret s0 fun v s => V s v r) := by
 unfold slices_Clone_Lbyte_byte at hr
 have j0 := Ext.refl s0
 refine Calls_of (n := 8) (args := [w0]) Try.func44 rfl rfl (by simp) (sr (asg (rv (Value.slice none 0 0)) (nn (W_seq (sr (mv (rv w0) (L_eqNil Try.underlying22 (rv w0) h0 (by decide) (fun j1 j2 => nn ?_))))))))
 refine W_cond _ (rv (vb j1)) (fun j3 => ?_) (fun _ => ?_)
 ·obtain rfl := j2 j3; obtain ⟨_, hr⟩ := chk_some hr; refine sr (asg (rv (Value.slice none 0 0)) (nn (W_ret (then_r ?_)))); obtain rfl := Option.some.inj hr; exact done1 (Or.inl rfl) Try.results44 rfl ⟨_, _, rfl, rfl, j0, Vnil⟩
 ·refine W_skip (then_n (sr (L_buildSlice (xs := ([] : List U8)) Try.underlying22 tyz5 Parts_nil Vs.nil rfl (by decide) (by decide) (fun j4 j5 j6 j7 j8 => ?_)))); have j9 := Tch.ext j0 j6; refine mv (rv w0) ?_; obtain ⟨ja, hr⟩ := chk_some hr; refine L_append (xs := ([] : List U8)) (B := s0.w.heap.size) Try.underlying22 tyz5 (rv j5) (rv w0) ((j7.base j0.size)) (j9.size) (h0.mono j6.le) ja.1 ja.2 (by decide) (fun jb jc jd => ?_); have je := jd.tchM ((j7.base j0.size)) j9 (Nat.le_refl _); refine asg (rv jb) (nn (W_ret ?_)); obtain rfl := Option.some.inj hr; exact done1 (Or.inl rfl) Try.results44 rfl ⟨_, _, rfl, rfl, je, (jd.bld).toV⟩

theorem slices_Repeat_Lbool_bool_ok (N : Nat) (s0 : St) (w0 : Value) (a0 : List Bool) (h0 : V s0 w0 a0) (a1 : Int) (r : (List Bool)) (hr : slices_Repeat_Lbool_bool N a0 a1 = some r) :
    Calls Try.prog 61 #[w0, .int .i64 a1] s0.w (Ret s0 fun v s => ArrR s0.w.heap.size 4 s v r) := by
 unfold slices_Repeat_Lbool_bool at hr
 have j0 := Ext.refl s0
 refine Calls_of (n := 48) (args := [w0, .int .i64 a1]) Try.func61 rfl rfl (by simp) (sr (asg (rv (Value.slice none 0 0)) (nn (W_seq (sr (mv (rv (vi a1)) (ls (rv (vi a1)) (rv (vi 0)) (nn ?_))))))))
 refine W_cond _ (rv (vb (decide (a1 < 0)))) (fun j1 => ?_) (fun j1 => ?_)
 ·have hr := ite_t j1 hr
  refine W_region ?_
  cases hr
 ·have hr := ite_f j1 hr
  refine W_skip (then_n (sr (mv (rv w0) (ln Try.underlying27 (rv w0) h0 (L_convK Try.underlying3 Try.underlying96 (rv (vi ((a0.length : Int)))) (by decide) (mv (rv (vi a1)) (L_convK Try.underlying3 Try.underlying96 (rv (vi a1)) (by decide) ?_)))))))
  obtain ⟨j2, j3, hr⟩ := bind_some hr
  refine L_calls cal87 (args2 (rv (Value.int .u64 ((⟨convK .u64 (a0.length : Int)⟩ : U64)).n)) (rv (Value.int .u64 ((⟨convK .u64 a1⟩ : U64)).n))) (math_bits_Mul_ok N _ (⟨convK .u64 (a0.length : Int)⟩ : U64) (⟨convK .u64 a1⟩ : U64) j2 j3) (by decide) (fun j4 j5 j6 j7 => ?_)
  have j8 := Tch.ext j0 j6
  obtain ⟨j9, ja, rfl, jb, jc⟩ := j7
  obtain rfl := jb.u64
  obtain rfl := jc.u64
  refine mv (rv (Value.tuple #[Value.int .u64 (j2.1).n, Value.int .u64 (j2.2).n])) (xt (rv (Value.tuple #[Value.int .u64 (j2.1).n, Value.int .u64 (j2.2).n])) (k := 0) rfl (xt (rv (Value.tuple #[Value.int .u64 (j2.1).n, Value.int .u64 (j2.2).n])) (k := 1) rfl (asg (rv (Value.int .u64 (j2.1).n)) (asg (rv (Value.int .u64 (j2.2).n)) (nn (W_seq ?_))))))
  obtain ⟨jd, je, jf⟩ := bind_some hr
  refine W_seq_cut (fun f w => ∃ (s : St) (jg : Bool), s.w = w ∧ Ext s0 s ∧ Le j5 s ∧ jg = jd ∧ f 26 = vb jg ∧ f 0 = w0 ∧ f 6 = Value.int .u64 (j2.2).n) ?_ ?_
  ·have hr := je
   refine W_region (mv (rv (Value.int .u64 (j2.1).n)) (L_gtr (rv (Value.int .u64 (j2.1).n)) (rv (Value.int .u64 ((⟨0⟩ : U64)).n)) (by decide) (mv (rv (vb (decide ((⟨0⟩ : U64).n < j2.1.n)))) ?_)))
   rcases tf (decide ((⟨0⟩ : U64).n < j2.1.n)) with jh | jh
   ·have hr := ite_t jh hr; exact gf 23 (rv (vb (decide ((⟨0⟩ : U64).n < j2.1.n)))) jh (gf 23 (rv (vb (decide ((⟨0⟩ : U64).n < j2.1.n)))) jh (pt (rv (vb (decide ((⟨0⟩ : U64).n < j2.1.n)))) jh (rv (vb true)) (nn ⟨j5, true, rfl, j8, (Le.refl _), Option.some.inj hr, rfl, rfl, rfl⟩)))
   ·have hr := ite_f jh hr; exact gt 23 (rv (vb (decide ((⟨0⟩ : U64).n < j2.1.n)))) jh (mv (rv (Value.int .u64 (j2.2).n)) (gt 23 (rv (vb (decide ((⟨0⟩ : U64).n < j2.1.n)))) jh (L_gtr (rv (Value.int .u64 (j2.2).n)) (rv (Value.int .u64 ((⟨9223372036854775807⟩ : U64)).n)) (by decide) (pf (rv (vb (decide ((⟨0⟩ : U64).n < j2.1.n)))) jh (rv (vb (decide ((⟨9223372036854775807⟩ : U64).n < j2.2.n)))) (nn ⟨j5, (decide ((⟨9223372036854775807⟩ : U64).n < j2.2.n)), rfl, j8, (Le.refl _), Option.some.inj hr, rfl, rfl, rfl⟩)))))
  ·rintro jh ji ⟨jj, jg, rfl, jk, jl, je, jm, jn, jo⟩
   subst je
   have hr := jf
   try dsimp only at hr
   refine W_cond _ jm (fun jp => ?_) (fun jp => ?_)
   ·have hr := ite_t jp hr
    refine W_region ?_
    cases hr
   ·have hr := ite_f jp hr
    refine W_skip (then_n (sr (mv jo (L_convK Try.underlying96 Try.underlying3 (rv (Value.int .u64 (j2.2).n)) (by decide) ?_))))
    obtain ⟨jq, hr⟩ := chk_some hr
    refine L_makeArr (x0 := (false : Bool)) Try.underlying27 tyz4 (rv (vi (convK .i64 j2.2.n))) jq.1 jq.2.1 jq.2.2 (fun _ => rfl) (by decide) (fun jr js jt ju jv => ?_)
    have jw := Tch.ext jk jt
    refine asg (rv (Value.slice (some ⟨js, 0, none⟩) (convK .i64 j2.2.n).toNat (convK .i64 j2.2.n).toNat)) (nn (sr (mv (rv (Value.slice (some ⟨js, 0, none⟩) (convK .i64 j2.2.n).toNat (convK .i64 j2.2.n).toNat)) (mv jn (L_copyA (xs := (List.replicate (convK .i64 j2.2.n).toNat (false : Bool))) flat4 Try.underlying27 ty4.inf (rv (Value.slice (some ⟨js, 0, none⟩) (convK .i64 j2.2.n).toNat (convK .i64 j2.2.n).toNat)) (jv) (rv w0) (h0.mono (j6.le.trans (jl.trans jt.le))) (by decide) (fun jx jy jz => ?_))))))
    have k0 := Tch.trans jw jy (fun k hk => Or.inr (by subst hk; exact (Nat.le_trans jk.size ju)))
    refine asg (rfl : _ = vi (((min a0.length ((convK .i64 j2.2.n).toNat) : Nat) : Int))) (nn (W_seq ?_))
    obtain ⟨k1, k2, k3⟩ := bind_some hr
    refine W_cut (fun f w => ∃ (s : St) (k4 : List Bool), s.w = w ∧ Ext s0 s ∧ Le jx s ∧ k4 = k1 ∧ f 7 = Value.slice (some ⟨js, 0, none⟩) (convK .i64 j2.2.n).toNat (convK .i64 j2.2.n).toNat ∧ Arr s js 4 (convK .i64 j2.2.n).toNat k4) ?_ ?_
    ·refine W_block (W_loop (fun m f w => ∃ (s : St) (k5 : Int) (k6 : List Bool), s.w = w ∧ Ext s0 s ∧ Le jx s ∧ slices_Repeat_Lbool_bool_l1 N j2 m k5 k6 = some k1 ∧ f 8 = vi k5 ∧ f 7 = Value.slice (some ⟨js, 0, none⟩) (convK .i64 j2.2.n).toNat (convK .i64 j2.2.n).toNat ∧ Arr s js 4 (convK .i64 j2.2.n).toNat k6) N ⟨jx, ((min a0.length ((convK .i64 j2.2.n).toNat) : Nat) : Int), (cpy (List.replicate (convK .i64 j2.2.n).toNat (false : Bool)) 0 a0), rfl, k0, (Le.refl _), k2, rfl, rfl, jz⟩ ?_)
     rintro k7 k8 k9 ⟨ka, k5, k6, rfl, kb, kc, hr, kd, ke, kf⟩
     cases k7 with
     | zero => exact absurd hr (by simp [slices_Repeat_Lbool_bool_l1])
     | succ k7 =>
      rw [slices_Repeat_Lbool_bool_l1.eq_2] at hr
      refine W_seq (sr (mv kd (mv ke (L_lenA Try.underlying27 (rv (Value.slice (some ⟨js, 0, none⟩) (convK .i64 j2.2.n).toNat (convK .i64 j2.2.n).toNat)) (by decide) (ls (rv (vi k5)) (rv (vi ((((convK .i64 j2.2.n).toNat : Nat) : Int)))) (nn ?_))))))
      refine W_cond _ (rfl : _ = vb (decide (k5 < (((convK .i64 j2.2.n).toNat : Nat) : Int)))) (fun kg => ?_) (fun kg => ?_)
      ·have hr := ite_t kg hr
       refine W_skip (then_n (W_block ?_))
       obtain ⟨kh, hr⟩ := chk_some hr
       obtain ⟨ki, kj, hr⟩ := bind_some hr
       obtain ⟨kk, hr⟩ := chk_some hr
       refine W_drawO mixed 10 [PX.eq (vi k5), PX.eq (Value.slice (some ⟨js, 0, none⟩) (convK .i64 j2.2.n).toNat (convK .i64 j2.2.n).toNat), PX.eq (vi k5), PX.eq ((endV js ((convK .i64 j2.2.n).toNat) 1 (k5).toNat)), PX.eq (Value.slice (some ⟨js, 0, none⟩) (convK .i64 j2.2.n).toNat (convK .i64 j2.2.n).toNat), PX.eq (vi k5), PX.eq ((cutV js (convK .i64 j2.2.n).toNat 1 (k5))), PX.pin (vi (((min ki.length (((convK .i64 j2.2.n).toNat) - (k5).toNat) : Nat) : Int))) js 4 ((convK .i64 j2.2.n).toNat) (cpy k6 (k5).toNat ki : List Bool), PX.eq (vi (k5 + ((min ki.length (((convK .i64 j2.2.n).toNat) - (k5).toNat) : Nat) : Int))), PX.eq (vi (k5 + ((min ki.length (((convK .i64 j2.2.n).toNat) - (k5).toNat) : Nat) : Int))), PX.arr js 4 ((convK .i64 j2.2.n).toNat) (k6 : List Bool)] [38, 39, 40, 41, 42, 43, 44, 45, 46, 8, 7] [[], [], [], [], [], [], [], [10], [], []] rfl (by kernel_rfl) (ent1 rfl ⟨ke, kf⟩) (dis1 rfl) (StepsX_cons ?_ (StepsX_cons ?_ (StepsX_cons ?_ (StepsX_cons ?_ (StepsX_cons ?_ (StepsX_cons ?_ (StepsX_cons ?_ (StepsX_cons ?_ (StepsX_cons ?_ (StepsX_cons ?_ StepsX_nil)))))))))) ?_
       ·intro kl km kn ko kp kq Q kr; have ks : kl 8 = vi (k5) := (kp 8 (by kernel_rfl)).trans kd; exact mv ks (L_nil (kr _ _ No (Ext.refl km) (fun _ h => h.elim) rfl (fun _ h => h.elim)))
       ·intro kl km kn ko kp kq Q kr; have ks : kl 7 = Value.slice (some ⟨js, 0, none⟩) (convK .i64 j2.2.n).toNat (convK .i64 j2.2.n).toNat := (kp 7 (by kernel_rfl)).trans ke; exact mv ks (L_nil (kr _ _ No (Ext.refl km) (fun _ h => h.elim) rfl (fun _ h => h.elim)))
       ·intro kl km kn ko kp kq Q kr; have ks : kl 8 = vi (k5) := (kp 8 (by kernel_rfl)).trans kd; exact mv ks (L_nil (kr _ _ No (Ext.refl km) (fun _ h => h.elim) rfl (fun _ h => h.elim)))
       ·intro kl km kn ko kp kq Q kr; have ks : kl 39 = Value.slice (some ⟨js, 0, none⟩) (convK .i64 j2.2.n).toNat (convK .i64 j2.2.n).toNat := ko 1 (by kernel_rfl) (by show _ < 11; decide); have kt : kl 40 = vi (k5) := ko 2 (by kernel_rfl) (by show _ < 11; decide); obtain ⟨ku, kv⟩ : kl 7 = Value.slice (some ⟨js, 0, none⟩) ((convK .i64 j2.2.n).toNat) ((convK .i64 j2.2.n).toNat) ∧ Arr km js 4 ((convK .i64 j2.2.n).toNat) (k6 : List Bool) := ko 10 (by kernel_rfl) (by show _ < 11; decide); exact L_sliceA_l (sz := 1) Try.underlying27 ty4.inf ks kt kh.1 kh.2 (by decide) (L_nil (kr _ _ No (Ext.refl km) (fun _ h => h.elim) rfl (fun _ h => h.elim)))
       ·intro kl km kn ko kp kq Q kr; have ks : kl 7 = Value.slice (some ⟨js, 0, none⟩) (convK .i64 j2.2.n).toNat (convK .i64 j2.2.n).toNat := (kp 7 (by kernel_rfl)).trans ke; exact mv ks (L_nil (kr _ _ No (Ext.refl km) (fun _ h => h.elim) rfl (fun _ h => h.elim)))
       ·intro kl km kn ko kp kq Q kr; have ks : kl 8 = vi (k5) := (kp 8 (by kernel_rfl)).trans kd; exact mv ks (L_nil (kr _ _ No (Ext.refl km) (fun _ h => h.elim) rfl (fun _ h => h.elim)))
       ·intro kl km kn ko kp kq Q kr; have ks : kl 42 = Value.slice (some ⟨js, 0, none⟩) (convK .i64 j2.2.n).toNat (convK .i64 j2.2.n).toNat := ko 4 (by kernel_rfl) (by show _ < 11; decide); have kt : kl 43 = vi (k5) := ko 5 (by kernel_rfl) (by show _ < 11; decide); obtain ⟨ku, kv⟩ : kl 7 = Value.slice (some ⟨js, 0, none⟩) ((convK .i64 j2.2.n).toNat) ((convK .i64 j2.2.n).toNat) ∧ Arr km js 4 ((convK .i64 j2.2.n).toNat) (k6 : List Bool) := ko 10 (by kernel_rfl) (by show _ < 11; decide); exact L_sliceA_h (sz := 1) Try.underlying27 ty4.inf ks kt (cut_in kj).1 (by have := (cut_in kj).2; have := (kv).1; omega) (by decide) (L_nil (kr _ _ No (Ext.refl km) (fun _ h => h.elim) rfl (fun _ h => h.elim)))
       ·intro kl km kn ko kp kq Q kr; obtain ⟨ks, kt⟩ : kl 7 = Value.slice (some ⟨js, 0, none⟩) ((convK .i64 j2.2.n).toNat) ((convK .i64 j2.2.n).toNat) ∧ Arr km js 4 ((convK .i64 j2.2.n).toNat) (k6 : List Bool) := ko 10 (by kernel_rfl) (by show _ < 11; decide); have ku : kl 41 = (endV js ((convK .i64 j2.2.n).toNat) 1 (k5).toNat) := ko 3 (by kernel_rfl) (by show _ < 11; decide); have kv : kl 44 = (cutV js (convK .i64 j2.2.n).toNat 1 (k5)) := ko 6 (by kernel_rfl) (by show _ < 11; decide); exact L_copyAA (xs := k6) (lo := k5) flat4 Try.underlying27 ty4.inf ku (kt) kh.2 kv kj (by decide) (fun kw kx ky => L_nil (kr _ _ _ kx (fun k h => ⟨10, (List.mem_singleton.2 rfl : (10 : Nat) ∈ [10]), (by show own (kl 7) k; rw [ks]; exact congrArg some h.symm)⟩) ⟨rfl, ky⟩ (fun k h => Or.inl ⟨10, (List.mem_singleton.2 rfl : (10 : Nat) ∈ [10]), (by show own (kl 7) k; rw [ks]; exact congrArg some h.symm)⟩)))
       ·intro kl km kn ko kp kq Q kr; have ks : kl 38 = vi (k5) := ko 0 (by kernel_rfl) (by show _ < 11; decide); obtain ⟨kt, ku⟩ : kl 45 = vi (((min ki.length (((convK .i64 j2.2.n).toNat) - (k5).toNat) : Nat) : Int)) ∧ Arr km js 4 ((convK .i64 j2.2.n).toNat) (cpy k6 (k5).toNat ki : List Bool) := ko 7 (by kernel_rfl) (by show _ < 11; decide); exact ad ks kt kk (L_nil (kr _ _ No (Ext.refl km) (fun _ h => h.elim) rfl (fun _ h => h.elim)))
       ·intro kl km kn ko kp kq Q kr; have ks : kl 46 = vi (k5 + ((min ki.length (((convK .i64 j2.2.n).toNat) - (k5).toNat) : Nat) : Int)) := ko 8 (by kernel_rfl) (by show _ < 11; decide); exact asg ks (L_nil (kr _ _ No (Ext.refl km) (fun _ h => h.elim) rfl (fun _ h => h.elim)))
       ·intro kl km kn ko kp kq kr; have ks := Tch.trans kb kn (fun k h => Or.inr (by have kt := own_slice (ke : _ = Value.slice (some ⟨js, 0, none⟩) ((convK .i64 j2.2.n).toNat) ((convK .i64 j2.2.n).toNat)) (ent_is (k := 10) rfl rfl h); rw [kt]; exact (Nat.le_trans jk.size ju))); obtain ⟨ku, kv⟩ : kl 45 = vi (((min ki.length (((convK .i64 j2.2.n).toNat) - (k5).toNat) : Nat) : Int)) ∧ Arr km js 4 ((convK .i64 j2.2.n).toNat) (cpy k6 (k5).toNat ki : List Bool) := ko 7 (by show _ < 11; decide) (by kernel_rfl); have kw : kl 7 = Value.slice (some ⟨js, 0, none⟩) (convK .i64 j2.2.n).toNat (convK .i64 j2.2.n).toNat := (kr 7 (by kernel_rfl)).trans ke; have kx : kl 8 = vi (k5 + ((min ki.length (((convK .i64 j2.2.n).toNat) - (k5).toNat) : Nat) : Int)) := ko 9 (by show _ < 11; decide) (by kernel_rfl); refine block_n ?_; exact then_n ⟨k7, Nat.lt_succ_self _, ⟨km, (k5 + ((min ki.length (((convK .i64 j2.2.n).toNat) - (k5).toNat) : Nat) : Int)), (cpy k6 (k5).toNat ki), rfl, ks, (kc.trans kn.le), hr, kx, kw, kv⟩⟩
      ·have hr := ite_f kg hr; refine W_exit (then_x (then_x (block_here ?_))); exact then_n ⟨ka, k6, rfl, kb, kc, Option.some.inj hr, ke, kf⟩
    ·rintro k5 k6 ⟨k7, k4, rfl, k8, k9, k2, ka, kb⟩; subst k2; have hr := k3; (try dsimp only at hr); refine then_n (sr (mv ka (asg (rv (Value.slice (some ⟨js, 0, none⟩) (convK .i64 j2.2.n).toNat (convK .i64 j2.2.n).toNat)) (nn (W_ret ?_))))); obtain rfl := Option.some.inj hr; exact done1 (Or.inl rfl) Try.results61 rfl ⟨_, _, rfl, rfl, k8, (kb).res (Nat.le_trans jk.size ju)⟩

theorem check_field_solve_1_ok (N : Nat) (s0 : St) (w0 : Value) (a0 : List U8) (h0 : V s0 w0 a0) (w1 : Value) (a1 : Int) (h1 : Ptr s0 w1 a1) (r : Bool) (hr : check_field_solve_1 N a0 a1 = some r) :
    Calls Try.prog 67 #[w0, w1] s0.w (Ret s0 fun v s => V s v r) := by
 unfold check_field_solve_1 at hr
 have j0 := Ext.refl s0
 refine Calls_of (n := 9) (args := [w0, w1]) Try.func67 rfl rfl (by simp) (sr (asg (rv (vb false)) (nn (sr (mv (rv w0) (li ty3 (rv w1) h1 ?_))))))
 obtain ⟨j1, j2, hr⟩ := bind_some hr
 refine ix Try.underlying22 ty5.inf (rv w0) h0 (rv (vi a1)) j2 (fun j3 j4 => L_load_u8 ty5 (rv j3) j4 (by decide) (ne (rv (Value.int .u8 (j1).n)) (rv (Value.int .u8 ((⟨0⟩ : U8)).n)) (asg (rv (vb (!decide (j1.n = (⟨0⟩ : U8).n)))) (nn (W_ret ?_)))))
 obtain rfl := Option.some.inj hr
 exact done1 (Or.inl rfl) Try.results67 rfl ⟨_, _, rfl, rfl, j0, Vbool⟩

theorem check_field_mul_ok (N : Nat) (s0 : St) (w0 : Value) (a0 : Field) (h0 : Ptr s0 w0 a0) (a1 : U8) (a2 : U8) (r : U8) (hr : check_field_mul N a0 a1 a2 = some r) :
    Calls Try.prog 89 #[w0, .int .u8 a1.n, .int .u8 a2.n] s0.w (Ret s0 fun v s => V s v r) := by
 unfold check_field_mul at hr
 have j0 := Ext.refl s0
 refine Calls_of (n := 31) (args := [w0, .int .u8 a1.n, .int .u8 a2.n]) Try.func89 rfl rfl (by simp) (sr (asg (rv (Value.int .u8 ((⟨0⟩ : U8)).n)) (nn (W_seq ?_))))
 obtain ⟨j1, j2, j3⟩ := bind_some hr
 refine W_seq_cut (fun f w => ∃ (s : St) (j4 : Bool), s.w = w ∧ Ext s0 s ∧ Le s0 s ∧ j4 = j1 ∧ f 12 = vb j4 ∧ f 0 = w0 ∧ f 1 = Value.int .u8 (a1).n ∧ f 2 = Value.int .u8 (a2).n) ?_ ?_
 ·have hr := j2
  refine W_region (mv (rv (Value.int .u8 (a1).n)) (el (rv (Value.int .u8 (a1).n)) (rv (Value.int .u8 ((⟨0⟩ : U8)).n)) (mv (rv (vb (decide (a1.n = (⟨0⟩ : U8).n)))) ?_)))
  rcases tf (decide (a1.n = (⟨0⟩ : U8).n)) with j5 | j5
  ·have hr := ite_t j5 hr; exact gf 9 (rv (vb (decide (a1.n = (⟨0⟩ : U8).n)))) j5 (gf 9 (rv (vb (decide (a1.n = (⟨0⟩ : U8).n)))) j5 (pt (rv (vb (decide (a1.n = (⟨0⟩ : U8).n)))) j5 (rv (vb true)) (nn ⟨s0, true, rfl, j0, (Le.refl _), Option.some.inj hr, rfl, rfl, rfl, rfl⟩)))
  ·have hr := ite_f j5 hr; exact gt 9 (rv (vb (decide (a1.n = (⟨0⟩ : U8).n)))) j5 (mv (rv (Value.int .u8 (a2).n)) (gt 9 (rv (vb (decide (a1.n = (⟨0⟩ : U8).n)))) j5 (el (rv (Value.int .u8 (a2).n)) (rv (Value.int .u8 ((⟨0⟩ : U8)).n)) (pf (rv (vb (decide (a1.n = (⟨0⟩ : U8).n)))) j5 (rv (vb (decide (a2.n = (⟨0⟩ : U8).n)))) (nn ⟨s0, (decide (a2.n = (⟨0⟩ : U8).n)), rfl, j0, (Le.refl _), Option.some.inj hr, rfl, rfl, rfl, rfl⟩)))))
 ·rintro j5 j6 ⟨j7, j4, rfl, j8, j9, j2, ja, jb, jc, jd⟩
  subst j2
  have hr := j3
  try dsimp only at hr
  refine W_cond _ ja (fun je => ?_) (fun je => ?_)
  ·have hr := ite_t je hr; refine sr (asg (rv (Value.int .u8 ((⟨0⟩ : U8)).n)) (nn (W_ret (then_r ?_)))); obtain rfl := Option.some.inj hr; exact done1 (Or.inl rfl) Try.results89 rfl ⟨_, _, rfl, rfl, j8, Vu8⟩
  ·have hr := ite_f je hr
   refine W_skip (then_n (W_seq ?_))
   obtain ⟨jf, jg, hr⟩ := bind_some hr
   obtain ⟨jh, ji, hr⟩ := bind_some hr
   obtain ⟨jj, hr⟩ := chk_some hr
   obtain ⟨jk, jl, hr⟩ := bind_some hr
   refine W_draws mixed (by kernel_rfl) [PV.ptr (a0 : Field), PV.ptr (a0 : Field), PV.eq (Value.int .u8 (a1).n), PV.ptr (a0 : Field), PV.ptr (a0.log : AV 256 Int), PV.ptr (jf : Int), PV.eq (vi jf), PV.ptr (a0 : Field), PV.eq (Value.int .u8 (a2).n), PV.ptr (a0 : Field), PV.ptr (a0.log : AV 256 Int), PV.ptr (jh : Int), PV.eq (vi jh), PV.eq (vi (jf + jh)), PV.ptr (a0 : Field), PV.ptr (a0.power : AV 510 U8), PV.ptr (jk : U8), PV.eq (Value.int .u8 (jk).n), PV.eq (Value.int .u8 (jk).n)] (Steps_cons ?_ (Steps_cons ?_ (Steps_cons ?_ (Steps_cons ?_ (Steps_cons ?_ (Steps_cons ?_ (Steps_cons ?_ (Steps_cons ?_ (Steps_cons ?_ (Steps_cons ?_ (Steps_cons ?_ (Steps_cons ?_ (Steps_cons ?_ (Steps_cons ?_ (Steps_cons ?_ (Steps_cons ?_ (Steps_cons ?_ (Steps_cons ?_ (Steps_cons ?_ Steps_nil))))))))))))))))))) ?_
   ·intro jm jn jo jp jq Q jr; have js : jm 0 = w0 := (jq 0 (by kernel_rfl)).trans jb; exact mv js (fin jr (h0.mono (j9.trans jo.le)))
   ·intro jm jn jo jp jq Q jr; have js : jm 0 = w0 := (jq 0 (by kernel_rfl)).trans jb; exact mv js (fin jr (h0.mono (j9.trans jo.le)))
   ·intro jm jn jo jp jq Q jr; have js : jm 1 = Value.int .u8 (a1).n := (jq 1 (by kernel_rfl)).trans jc; exact mv js (fin jr rfl)
   ·intro jm jn jo jp jq Q jr; have js : Ptr _ (jm 14) (a0 : Field) := jp 1 14 (by kernel_rfl) (by kernel_rfl); obtain ⟨jt, ju, jv⟩ : ∃ v, _ = v ∧ Ptr _ v _ := ⟨_, rfl, js⟩; exact L_nilCheck_ptr ju jv (by decide) (fin jr jv)
   ·intro jm jn jo jp jq Q jr; have js : Ptr _ (jm 16) (a0 : Field) := jp 3 16 (by kernel_rfl) (by kernel_rfl); obtain ⟨jt, ju, jv⟩ : ∃ v, _ = v ∧ Ptr _ v _ := ⟨_, rfl, js⟩; exact fa fld151_1 Field.of_log ju jv (fun jw jx => fin jr jx)
   ·intro jm jn jo jp jq Q jr; have js : jm 15 = Value.int .u8 (a1).n := jp 2 15 (by kernel_rfl) (by kernel_rfl); have jt : Ptr _ (jm 17) (a0.log : AV 256 Int) := jp 4 17 (by kernel_rfl) (by kernel_rfl); obtain ⟨ju, jv, jw⟩ : ∃ v, _ = v ∧ Ptr _ v _ := ⟨_, rfl, jt⟩; exact L_indexAV Try.underlying149 ty3.inf jv jw js jg (by decide) (fun jx jy => fin jr jy)
   ·intro jm jn jo jp jq Q jr; have js : Ptr _ (jm 18) (jf : Int) := jp 5 18 (by kernel_rfl) (by kernel_rfl); obtain ⟨jt, ju, jv⟩ : ∃ v, _ = v ∧ Ptr _ v _ := ⟨_, rfl, js⟩; exact li ty3 ju jv (fin jr rfl)
   ·intro jm jn jo jp jq Q jr; have js : jm 0 = w0 := (jq 0 (by kernel_rfl)).trans jb; exact mv js (fin jr (h0.mono (j9.trans jo.le)))
   ·intro jm jn jo jp jq Q jr; have js : jm 2 = Value.int .u8 (a2).n := (jq 2 (by kernel_rfl)).trans jd; exact mv js (fin jr rfl)
   ·intro jm jn jo jp jq Q jr; have js : Ptr _ (jm 20) (a0 : Field) := jp 7 20 (by kernel_rfl) (by kernel_rfl); obtain ⟨jt, ju, jv⟩ : ∃ v, _ = v ∧ Ptr _ v _ := ⟨_, rfl, js⟩; exact L_nilCheck_ptr ju jv (by decide) (fin jr jv)
   ·intro jm jn jo jp jq Q jr; have js : Ptr _ (jm 22) (a0 : Field) := jp 9 22 (by kernel_rfl) (by kernel_rfl); obtain ⟨jt, ju, jv⟩ : ∃ v, _ = v ∧ Ptr _ v _ := ⟨_, rfl, js⟩; exact fa fld151_1 Field.of_log ju jv (fun jw jx => fin jr jx)
   ·intro jm jn jo jp jq Q jr; have js : jm 21 = Value.int .u8 (a2).n := jp 8 21 (by kernel_rfl) (by kernel_rfl); have jt : Ptr _ (jm 23) (a0.log : AV 256 Int) := jp 10 23 (by kernel_rfl) (by kernel_rfl); obtain ⟨ju, jv, jw⟩ : ∃ v, _ = v ∧ Ptr _ v _ := ⟨_, rfl, jt⟩; exact L_indexAV Try.underlying149 ty3.inf jv jw js ji (by decide) (fun jx jy => fin jr jy)
   ·intro jm jn jo jp jq Q jr; have js : Ptr _ (jm 24) (jh : Int) := jp 11 24 (by kernel_rfl) (by kernel_rfl); obtain ⟨jt, ju, jv⟩ : ∃ v, _ = v ∧ Ptr _ v _ := ⟨_, rfl, js⟩; exact li ty3 ju jv (fin jr rfl)
   ·intro jm jn jo jp jq Q jr; have js : jm 19 = vi (jf) := jp 6 19 (by kernel_rfl) (by kernel_rfl); have jt : jm 25 = vi (jh) := jp 12 25 (by kernel_rfl) (by kernel_rfl); exact ad js jt jj (fin jr rfl)
   ·intro jm jn jo jp jq Q jr; have js : Ptr _ (jm 13) (a0 : Field) := jp 0 13 (by kernel_rfl) (by kernel_rfl); obtain ⟨jt, ju, jv⟩ : ∃ v, _ = v ∧ Ptr _ v _ := ⟨_, rfl, js⟩; exact L_nilCheck_ptr ju jv (by decide) (fin jr jv)
   ·intro jm jn jo jp jq Q jr; have js : Ptr _ (jm 27) (a0 : Field) := jp 14 27 (by kernel_rfl) (by kernel_rfl); obtain ⟨jt, ju, jv⟩ : ∃ v, _ = v ∧ Ptr _ v _ := ⟨_, rfl, js⟩; exact fa fld151_0 Field.of_power ju jv (fun jw jx => fin jr jx)
   ·intro jm jn jo jp jq Q jr; have js : jm 26 = vi (jf + jh) := jp 13 26 (by kernel_rfl) (by kernel_rfl); have jt : Ptr _ (jm 28) (a0.power : AV 510 U8) := jp 15 28 (by kernel_rfl) (by kernel_rfl); obtain ⟨ju, jv, jw⟩ : ∃ v, _ = v ∧ Ptr _ v _ := ⟨_, rfl, jt⟩; exact L_indexAV Try.underlying148 ty5.inf jv jw js jl (by decide) (fun jx jy => fin jr jy)
   ·intro jm jn jo jp jq Q jr; have js : Ptr _ (jm 29) (jk : U8) := jp 16 29 (by kernel_rfl) (by kernel_rfl); obtain ⟨jt, ju, jv⟩ : ∃ v, _ = v ∧ Ptr _ v _ := ⟨_, rfl, js⟩; exact L_load_u8 ty5 ju jv (by decide) (fin jr rfl)
   ·intro jm jn jo jp jq Q jr; have js : jm 30 = Value.int .u8 (jk).n := jp 17 30 (by kernel_rfl) (by kernel_rfl); exact asg js (fin jr rfl)
   ·intro jm jn jo jp jq; have jr := Tch.ext j8 jo; have js : jm 6 = Value.int .u8 (jk).n := jp 18 6 (by kernel_rfl); refine then_n (W_ret ?_); obtain rfl := Option.some.inj hr; exact done1 (Or.inl rfl) Try.results89 js ⟨_, _, rfl, rfl, jr, Vu8⟩

theorem check_field_row_okA (N : Nat) (s0 : St) (w0 : Value) (a0 : Field) (h0 : Ptr s0 w0 a0) (a1 : Int) (a2 : Int) (r : (List U8)) (hr : check_field_row N a0 a1 a2 = some r) :
    Calls Try.prog 65 #[w0, .int .i64 a1, .int .i64 a2] s0.w (Ret s0 fun v s => ArrR s0.w.heap.size 5 s v r) := by
 unfold check_field_row at hr
 have j0 := Ext.refl s0
 refine Calls_of (n := 37) (args := [w0, .int .i64 a1, .int .i64 a2]) Try.func65 rfl rfl (by simp) (sr (asg (rv (Value.slice none 0 0)) (nn (sr (mv (rv (vi a2)) ?_)))))
 obtain ⟨j1, hr⟩ := chk_some hr
 refine L_makeArr (x0 := (⟨0⟩ : U8)) Try.underlying22 tyz5 (rv (vi a2)) j1.1 j1.2.1 j1.2.2 (fun _ => rfl) (by decide) (fun j2 j3 j4 j5 j6 => ?_)
 have j7 := Tch.ext j0 j4
 refine asg (rv (Value.slice (some ⟨j3, 0, none⟩) (a2).toNat (a2).toNat)) (nn (W_seq (sr (mv (rv (vi a1)) (mv (rv (vi a2)) (ls (rv (vi a1)) (rv (vi a2)) (nn ?_)))))))
 refine W_cond _ (rv (vb (decide (a1 < a2)))) (fun j8 => ?_) (fun j8 => ?_)
 ·have hr := ite_t j8 hr; refine sr (mv (rv (Value.slice (some ⟨j3, 0, none⟩) (a2).toNat (a2).toNat)) (mv (rv (vi a1)) ?_)); obtain ⟨j9, ja, hr⟩ := bind_some hr; refine L_indexA (sz := 1) Try.underlying22 ty5.inf (rv (Value.slice (some ⟨j3, 0, none⟩) (a2).toNat (a2).toNat)) (rv (vi a1)) (idx_some ja).1 (by have := (idx_some ja).2.1; have := (j6).1; omega) (by decide) (L_storeA (xs := (List.replicate (a2).toNat (⟨0⟩ : U8))) ty5 (rv (Value.pointer (some ⟨j3, (a1).toNat * 1, none⟩))) (rv (Value.int .u8 ((⟨1⟩ : U8)).n)) Vu8 (j6) ja (fun jb jc jd => ?_)); have je := Tch.trans j7 jc (fun k hk => Or.inr (by subst hk; exact (Nat.le_trans j0.size j5))); refine nn (sr (mv (rv (Value.slice (some ⟨j3, 0, none⟩) (a2).toNat (a2).toNat)) (asg (rv (Value.slice (some ⟨j3, 0, none⟩) (a2).toNat (a2).toNat)) (nn (W_ret (then_r ?_)))))); obtain rfl := Option.some.inj hr; exact done1 (Or.inl rfl) Try.results65 rfl ⟨_, _, rfl, rfl, je, (jd).res (Nat.le_trans j0.size j5)⟩
 ·have hr := ite_f j8 hr
  refine W_skip (then_n (W_seq (sr (mv (rv (Value.slice (some ⟨j3, 0, none⟩) (a2).toNat (a2).toNat)) (L_lenA Try.underlying22 (rv (Value.slice (some ⟨j3, 0, none⟩) (a2).toNat (a2).toNat)) (by decide) (mv (rv (vi 0)) (nn ?_)))))))
  obtain ⟨j9, ja, jb⟩ := bind_some hr
  refine W_cut (fun f w => ∃ (s : St) (jc : List U8), s.w = w ∧ Ext s0 s ∧ Le j2 s ∧ jc = j9 ∧ f 7 = Value.slice (some ⟨j3, 0, none⟩) (a2).toNat (a2).toNat ∧ Arr s j3 5 (a2).toNat jc) ?_ ?_
  ·refine W_block (W_loop (fun m f w => ∃ (s : St) (jd : Int) (je : List U8), s.w = w ∧ Ext s0 s ∧ Le j2 s ∧ check_field_row_l1 N a0 a1 a2 m jd je = some j9 ∧ f 20 = vi jd ∧ f 0 = w0 ∧ f 1 = vi (a1) ∧ f 2 = vi (a2) ∧ f 7 = Value.slice (some ⟨j3, 0, none⟩) (a2).toNat (a2).toNat ∧ f 19 = vi ((((a2).toNat : Nat) : Int)) ∧ Arr s j3 5 (a2).toNat je) N ⟨j2, 0, (List.replicate (a2).toNat (⟨0⟩ : U8)), rfl, j7, (Le.refl _), ja, rfl, rfl, rfl, rfl, rfl, rfl, j6⟩ ?_)
   rintro jf jg jh ⟨ji, jd, je, rfl, jj, jk, hr, jl, jm, jn, jo, jp, jq, jr⟩
   cases jf with
   | zero => exact absurd hr (by simp [check_field_row_l1])
   | succ jf =>
    rw [check_field_row_l1.eq_2] at hr
    refine sr (ls jl jq (nn (W_seq ?_)))
    refine W_cond _ (rfl : _ = vb (decide (jd < (((a2).toNat : Nat) : Int)))) (fun js => ?_) (fun js => ?_)
    ·have hr := ite_t js hr; refine W_skip (then_n (W_seq (W_block (sr (mv jl (asg (rv (vi jd)) (nn (W_region (mv jp (mv (rv (vi jd)) (mv jm (mv jn (mv jo ?_))))))))))))); obtain ⟨jt, hr⟩ := chk_some hr; refine L_sub (rv (vi a1)) (rv (vi a2)) jt (by decide) (mv (rv (vi jd)) ?_); obtain ⟨ju, hr⟩ := chk_some hr; refine ad (rv (vi 16)) (rv (vi jd)) ju (L_xorK (rv (vi (a1 - a2))) (rv (vi (16 + jd))) (by decide) (L_convK Try.underlying3 Try.underlying5 (rv (vi (xorK .i64 (a1 - a2) (16 + jd)))) (by decide) ?_)); obtain ⟨jv, jw, hr⟩ := bind_some hr; refine L_calls cal68 (args2 (rv w0) (rv (Value.int .u8 ((⟨convK .u8 (xorK .i64 (a1 - a2) (16 + jd))⟩ : U8)).n))) (check_field_inverse_ok N _ _ _ (h0.mono (j4.le.trans jk)) (⟨convK .u8 (xorK .i64 (a1 - a2) (16 + jd))⟩ : U8) jv jw) (by decide) (fun jx jy jz k0 => ?_); have k1 := Tch.ext jj jz; obtain rfl := k0.u8; obtain ⟨k2, k3, hr⟩ := bind_some hr; refine L_indexA (sz := 1) Try.underlying22 ty5.inf (rv (Value.slice (some ⟨j3, 0, none⟩) (a2).toNat (a2).toNat)) (rv (vi jd)) (idx_some k3).1 (by have := (idx_some k3).2.1; have := ((jr).ext jz).1; omega) (by decide) (L_storeA (xs := je) ty5 (rv (Value.pointer (some ⟨j3, (jd).toNat * 1, none⟩))) (rv (Value.int .u8 (jv).n)) Vu8 ((jr).ext jz) k3 (fun k4 k5 k6 => ?_)); have k7 := Tch.trans k1 k5 (fun k hk => Or.inr (by subst hk; exact (Nat.le_trans j0.size j5))); refine L_nil (block_n (then_n (W_region ?_))); obtain ⟨k8, hr⟩ := chk_some hr; exact ad jl (rv (vi 1)) k8 (mv (rv (vi (jd + 1))) (nn ⟨jf, Nat.lt_succ_self _, ⟨k4, (jd + 1), (je.set (jd).toNat jv), rfl, k7, (jk.trans (jz.le.trans k5.le)), hr, rfl, jm, jn, jo, jp, jq, k6⟩⟩))
    ·have hr := ite_f js hr; refine W_exit (then_x (then_x (block_here ?_))); exact then_n ⟨ji, je, rfl, jj, jk, Option.some.inj hr, jp, jr⟩
  ·rintro jd je ⟨jf, jc, rfl, jg, jh, ja, ji, jj⟩; subst ja; have hr := jb; (try dsimp only at hr); refine then_n (sr (mv ji (asg (rv (Value.slice (some ⟨j3, 0, none⟩) (a2).toNat (a2).toNat)) (nn (W_ret ?_))))); obtain rfl := Option.some.inj hr; exact done1 (Or.inl rfl) Try.results65 rfl ⟨_, _, rfl, rfl, jg, (jj).res (Nat.le_trans j0.size j5)⟩

theorem slices_Clone_Lbyte_byte_okA (N : Nat) (s0 : St) (w0 : Value) (a0 : List U8) (h0 : V s0 w0 a0) (r : (List U8)) (hr : slices_Clone_Lbyte_byte N a0 = some r) :
    Calls Try.prog 44 #[w0] s0.w (Ret s0 fun v s => Bld s s0.w.heap.size 5 v r) := by
 unfold slices_Clone_Lbyte_byte at hr
 have j0 := Ext.refl s0
 refine Calls_of (n := 8) (args := [w0]) Try.func44 rfl rfl (by simp) (sr (asg (rv (Value.slice none 0 0)) (nn (W_seq (sr (mv (rv w0) (L_eqNil Try.underlying22 (rv w0) h0 (by decide) (fun j1 j2 => nn ?_))))))))
 refine W_cond _ (rv (vb j1)) (fun j3 => ?_) (fun _ => ?_)
 ·obtain rfl := j2 j3; obtain ⟨_, hr⟩ := chk_some hr; refine sr (asg (rv (Value.slice none 0 0)) (nn (W_ret (then_r ?_)))); obtain rfl := Option.some.inj hr; exact done1 (Or.inl rfl) Try.results44 rfl ⟨_, _, rfl, rfl, j0, Bld.nil⟩
 ·refine W_skip (then_n (sr (L_buildSlice (xs := ([] : List U8)) Try.underlying22 tyz5 Parts_nil Vs.nil rfl (by decide) (by decide) (fun j4 j5 j6 j7 j8 => ?_)))); have j9 := Tch.ext j0 j6; refine mv (rv w0) ?_; obtain ⟨ja, hr⟩ := chk_some hr; refine L_append (xs := ([] : List U8)) (B := s0.w.heap.size) Try.underlying22 tyz5 (rv j5) (rv w0) ((j7.base j0.size)) (j9.size) (h0.mono j6.le) ja.1 ja.2 (by decide) (fun jb jc jd => ?_); have je := jd.tchM ((j7.base j0.size)) j9 (Nat.le_refl _); refine asg (rv jb) (nn (W_ret ?_)); obtain rfl := Option.some.inj hr; exact done1 (Or.inl rfl) Try.results44 rfl ⟨_, _, rfl, rfl, je, jd.bld⟩

end Go.Arm
