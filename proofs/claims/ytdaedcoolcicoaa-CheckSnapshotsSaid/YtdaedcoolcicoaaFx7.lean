/- Proved here: CheckSnapshotsSaid, the given row of CheckSnapshots, for every input and with no condition of its own. -/
import Derived.Test.YtdaedcoolcicoaaZo
import Derived.Test.YtdaedcoolcicoaaZq
import Derived.Test.YtdaedcoolcicoaaRows
import Derived.Test.YtdaedcoolcicoaaChecked
import Derived.WalkKit
import Derived.ProofKit
import Derived.OpenShut
import Derived.Deep.Slices
import Derived.Carry
namespace Go.Proofs.Ytdaedcoolcicoaa
open Go Go.ChangeShapes Go.WideShapes Go.ChangeAt Go.RowKit

theorem ownC : ownKnob Try.prog.godebug = none := by kernel_rfl
theorem wf16 {n : Int} (h3 : (Lit.int .u16 n).wf = true) : 0 ≤ n ∧ n < 65536 := by
  simp [Lit.wf] at h3
  have e1 : IntKind.u16.min = 0 := by decide
  have e2 : IntKind.u16.max = 65535 := by decide
  rw [e1, e2] at h3
  omega
theorem u8in {P : Program} {t : TypeId} (ht : P.underlying t = some (.int .u8)) {H : Type} {enc : TypeId × Value → H} {w : World} {base : Nat} {spare : Nat → Bool} {held : Bool} {n : Int} {d : DataW H} {ps : List MemPlace}
    (h : DataW.Trod enc P w base spare held t (.int .u8 n) d ps) : 0 ≤ n ∧ n < 256 := by
  obtain ⟨fuel, h⟩ := h
  obtain ⟨n', h1, _, h2⟩ := DataW.trod_int ht h
  have : [Value.int .u8 n] = [Value.int .u8 n'] := h1
  cases this
  have h3 : (Lit.int .u8 n).wf = true := h2
  simp [Lit.wf] at h3
  have e1 : IntKind.u8.min = 0 := by decide
  have e2 : IntKind.u8.max = 255 := by decide
  rw [e1, e2] at h3
  omega

set_option maxRecDepth 100000 in
theorem liftedC (os : Os) (started : os.Started) (H : Type) (enc : TypeId × Value → H) :
    ReturnsInHanded {} Try.checked os 7 .any (Rows.checkSnapshotsSpec.pre6 enc Try.prog Try.f7 Rows.checkSnapshotsRow.domain false) (Rows.checkSnapshotsSpec.post enc Try.prog Try.f7 false true false false) := by
  refine returnsInHanded_of_change (C := Try.checked) ownC started (by kernel_rfl) Try.func7
    (ChangeSpec.witness6 (enc := enc) (C := Try.checked) false ⟨#[], #[.slice none 0 0, .int .u8 0, .slice none 0 0], []⟩ 7 (by kernel_rfl) (by kernel_rfl) (by kernel_rfl) (by kernel_rfl)) ?_
  intro W base args ds gs before hval0 hW hcnd _
  have hval : ∀ (j : Nat) t v, Try.f7.params[j]? = some t → args[j]? = some v → Value.okWide Try.prog W .any base t v := hval0
  have hW' := hW
  obtain ⟨p, q, hA0, hV, rfl, hfz, hnd⟩ := hW
  have hA : DataW.TrodAll enc Try.prog W 0 (fun _ => true) true Try.f7.params.toList args.toList ds p := hA0
  rw [Try.params7] at hA hval
  obtain ⟨v0, vs0, d0, ds0, p0, q0, hargs0, rfl, rfl, h0, r0⟩ := trodAll_cons hA
  obtain ⟨v1, vs1, d1, ds1, p1, q1, hargs1, rfl, rfl, h1, r1⟩ := trodAll_cons r0
  obtain ⟨v2, vs2, d2, ds2, p2, q2, hargs2, rfl, rfl, h2, r2⟩ := trodAll_cons r1
  obtain ⟨hargs3, rfl, rfl⟩ := trodAll_nil r2
  obtain rfl : args = #[v0, v1, v2] := by cases args; simp_all
  clear hargs0 hargs1 hargs2 hargs3
  obtain ⟨rfl, rfl⟩ := trodVars_none hV
  obtain ⟨b0, len0, cap0, rfl⟩ := okWide_slice Try.underlying64 (hval 0 64 v0 rfl rfl)
  obtain ⟨n1, rfl⟩ := okWide_int Try.underlying5 (hval 1 5 v1 rfl rfl)
  obtain ⟨b2, len2, cap2, rfl⟩ := okWide_slice Try.underlying76 (hval 2 76 v2 rfl rfl)
  clear hA0 hval0
  have k1 := u8in Try.underlying5 h1
  obtain ⟨l, K0⟩ := Go.X.held_of Try.underlying64 (k := .i64) (by kernel_rfl) (by kernel_rfl) h0 (fun b off hm => hfz b off (by simp [hm]))
  obtain ⟨mv, K2⟩ := Go.X.held_of Try.underlying76 (k := .u16) (by kernel_rfl) (by kernel_rfl) h2 (fun b off hm => hfz b off (by simp [hm]))
  obtain ⟨w0, φ0, m0, R0, F0', L0, V0, S0', T0⟩ := Arm.hold (Go.X.R.first W) Arm.first0 K0
  obtain ⟨w2, φ2, m2, R2, F2', L2, V2, S2', T2⟩ := Arm.hold R0 F0' K2
  have hr := snap_ok (s0v := w0) (s2v := w2) (l := l) (mv := mv) (S0'.ext T2) S2' k1 (fun z hz => wf16 (K2.wf z hz))
  have hw := law_calls (P := Try.prog) noCount mixed R2 (args' := #[.slice b0 len0 cap0, .int .u8 n1, .slice b2 len2 cap2]) (.cons (V0.mono L2) (.cons (.int _ _) (.cons V2 .nil))) hr
  refine Calls.mono hw fun e W' he => ?_
  obtain ⟨rfl, bel⟩ := he
  refine ⟨_, rfl, _, _, _, [], p0 ++ (p1 ++ (p2 ++ [])), [], hW', ?_, ?_, rfl, bel.frame _, fun h => by cases h⟩
  · exact trodAll_cons_mk (shut_bool Try.underlying4 _) trodAll_mk0
  · exact trodAll_cons_mk (bel.trod (by kernel_rfl) (by kernel_rfl) (by decide +kernel) h0 (fun x hx => hW'.lt x (by simp [hx]))) (trodAll_cons_mk (bel.trod (by kernel_rfl) (by kernel_rfl) (by decide +kernel) h1 (fun x hx => hW'.lt x (by simp [hx]))) (trodAll_cons_mk (bel.trod (by kernel_rfl) (by kernel_rfl) (by decide +kernel) h2 (fun x hx => hW'.lt x (by simp [hx]))) (trodAll_mk0)))

theorem checkSnapshots : Rows.CheckSnapshotsSaid :=
  OpenClaim.holds_of_wide 7 Try.f7 rfl rfl rfl rfl rfl rfl rfl ⟨rfl, rfl, rfl, rfl, rfl⟩ rfl rfl rfl rfl rfl (by kernel_rfl) Try.func7 (by kernel_rfl)
    (of_decide_eq_true (by kernel_rfl)) (by unfold Func.isWrapper; first | (rw [if_pos (by decide +kernel)]; kernel_rfl) | (rw [if_neg (by decide +kernel)]; exact ⟨rfl, rfl⟩))
    (fun os started H enc _ => liftedC os started H enc)
end Go.Proofs.Ytdaedcoolcicoaa
