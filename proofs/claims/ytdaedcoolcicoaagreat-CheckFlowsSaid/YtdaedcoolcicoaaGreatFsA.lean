/- Proved here: CheckFlowsSaid, the given row of CheckFlows, for every input and with no condition of its own. -/
import Derived.Test.YtdaedcoolcicoaaGreatZp
import Derived.Test.YtdaedcoolcicoaaGreatZi
import Derived.Test.YtdaedcoolcicoaaGreatRows
import Derived.Test.YtdaedcoolcicoaaGreatChecked
import Derived.WalkKit
import Derived.ProofKit
import Derived.OpenShut
import Derived.Deep.Slices
import Derived.Carry
namespace Go.Proofs.YtdaedcoolcicoaaGreat
open Go Go.ChangeShapes Go.WideShapes Go.ChangeAt Go.RowKit

theorem ownF : ownKnob Tryz.prog.godebug = none := by kernel_rfl
theorem wf8 {n : Int} (h3 : (Lit.int .u8 n).wf = true) : 0 ≤ n ∧ n < 256 := by
  simp [Lit.wf] at h3
  have e1 : IntKind.u8.min = 0 := by decide
  have e2 : IntKind.u8.max = 255 := by decide
  rw [e1, e2] at h3
  omega
theorem law_calls {P : Program} [Go.X.Kn P] (hN : Go.X.NoCount P) (hM : P.follows .mixedOrders = true) {f : FuncId} {args : List Value} {args' : Array Value} {W : World} {h : Go.X.AH} {φ : Go.X.Phi} (hR : Go.X.R W φ h W)
    (ha : Go.X.LR φ args args'.toList) (hs : Arm.Calls P f args h (fun r => r.1 = .bool true)) : Go.Calls P f args' W fun e w' => e = .returned (.bool true) ∧ RowKit.Below W.heap.size W w' := by
  obtain ⟨l, hl, hall⟩ := hs
  have hc := (Go.X.eRun_callsOk (P := P) hN hM W _ _ _ φ W (.enter f ⟨args'.toList⟩) hl hR (.enter ha)).1 _ _ rfl
  refine Go.Calls.mono hc fun e w' he => ?_
  obtain ⟨v', rfl, v, h', hm, φ', _, hr, hv⟩ := he
  have := hall _ hm
  dsimp only at this
  subst this
  cases hv
  exact ⟨rfl, hr.below⟩
theorem four {l : List Value} (h : l.length = 4) : ∃ a b c d, l = [a, b, c, d] := by
  match l, h with
  | [a, b, c, d], _ => exact ⟨a, b, c, d, rfl⟩
theorem openAct {H : Type} {enc : TypeId × Value → H} {w : World} {base : Nat} {spare : Nat → Bool} {held : Bool} (fuel : Nat) (cs : List Value) (x : DataW H × List MemPlace) (h : DataW.trod enc Tryz.prog w base spare held fuel 75 cs = some x) : ∃ a : Ac, (0 ≤ a.what ∧ a.what < 256) ∧ cs = acw a := by
  obtain ⟨xs, n, _, _, hl, hxs, hf⟩ := DataW.trod_struct Tryz.underlying75 h
  have hcell : Tryz.prog.cellsOf 75 = 4 := by kernel_rfl
  have hc5 : Tryz.prog.cellsOf 5 = 1 := by kernel_rfl
  have hc3 : Tryz.prog.cellsOf 3 = 1 := by kernel_rfl
  have hc2 : Tryz.prog.cellsOf 2 = 1 := by kernel_rfl
  rw [hcell] at hl
  obtain ⟨c0, c1, c2, c3, rfl⟩ := four hl
  have hx : ∀ i, i < 4 → ∃ y, xs[i]? = some y := fun i hi => ⟨_, List.getElem?_eq_getElem (by rw [hxs]; exact hi)⟩
  obtain ⟨y0, e0⟩ := hx 0 (by decide)
  obtain ⟨y1, e1⟩ := hx 1 (by decide)
  obtain ⟨y2, e2⟩ := hx 2 (by decide)
  obtain ⟨y3, e3⟩ := hx 3 (by decide)
  have f0 : DataW.trod enc Tryz.prog w base spare held n 5 (([c0, c1, c2, c3].drop 0).take (Tryz.prog.cellsOf 5)) = some y0 := (hf 0 _ rfl).trans e0
  have f1 : DataW.trod enc Tryz.prog w base spare held n 3 (([c0, c1, c2, c3].drop 1).take (Tryz.prog.cellsOf 3)) = some y1 := (hf 1 _ rfl).trans e1
  have f2 : DataW.trod enc Tryz.prog w base spare held n 3 (([c0, c1, c2, c3].drop 2).take (Tryz.prog.cellsOf 3)) = some y2 := (hf 2 _ rfl).trans e2
  have f3 : DataW.trod enc Tryz.prog w base spare held n 2 (([c0, c1, c2, c3].drop 3).take (Tryz.prog.cellsOf 2)) = some y3 := (hf 3 _ rfl).trans e3
  rw [hc5] at f0
  rw [hc3] at f1 f2
  rw [hc2] at f3
  obtain ⟨n0, h0, _, w0⟩ := DataW.trod_int Tryz.underlying5 f0
  obtain ⟨n1, h1, _, _⟩ := DataW.trod_int Tryz.underlying3 f1
  obtain ⟨n2, h2, _, _⟩ := DataW.trod_int Tryz.underlying3 f2
  obtain ⟨n3, h3, _, _⟩ := DataW.trod_int Tryz.underlying2 f3
  simp at h0 h1 h2 h3
  subst h0 h1 h2 h3
  exact ⟨⟨n0, n1, n2, n3⟩, wf8 w0, rfl⟩

set_option maxRecDepth 100000 in
theorem liftedF (os : Os) (started : os.Started) (H : Type) (enc : TypeId × Value → H) :
    ReturnsInHanded {} Tryz.checked os 8 .any (Rows.checkFlowsSpec.pre6 enc Tryz.prog Tryz.f8 Rows.checkFlowsRow.domain false) (Rows.checkFlowsSpec.post enc Tryz.prog Tryz.f8 false true false false) := by
  refine returnsInHanded_of_change (C := Tryz.checked) ownF started (by kernel_rfl) Tryz.func8
    (ChangeSpec.witness6 (enc := enc) (C := Tryz.checked) false ⟨#[], #[.slice none 0 0, .slice none 0 0], []⟩ 8 (by kernel_rfl) (by kernel_rfl) (by kernel_rfl) (by kernel_rfl)) ?_
  intro W base args ds gs before hval0 hW hcnd _
  have hval : ∀ (j : Nat) t v, Tryz.f8.params[j]? = some t → args[j]? = some v → Value.okWide Tryz.prog W .any base t v := hval0
  have hW' := hW
  obtain ⟨p, q, hA0, hV, rfl, hfz, hnd⟩ := hW
  have hA : DataW.TrodAll enc Tryz.prog W 0 (fun _ => true) true Tryz.f8.params.toList args.toList ds p := hA0
  rw [Tryz.params8] at hA hval
  obtain ⟨v0, vs0, d0, ds0, p0, q0, hargs0, rfl, rfl, h0, r0⟩ := trodAll_cons hA
  obtain ⟨v1, vs1, d1, ds1, p1, q1, hargs1, rfl, rfl, h1, r1⟩ := trodAll_cons r0
  obtain ⟨hargs2, rfl, rfl⟩ := trodAll_nil r1
  obtain rfl : args = #[v0, v1] := by cases args; simp_all
  clear hargs0 hargs1 hargs2
  obtain ⟨rfl, rfl⟩ := trodVars_none hV
  obtain ⟨b0, len0, cap0, rfl⟩ := okWide_slice Tryz.underlying64 (hval 0 64 v0 rfl rfl)
  obtain ⟨b1, len1, cap1, rfl⟩ := okWide_slice Tryz.underlying65 (hval 1 65 v1 rfl rfl)
  clear hA0 hval0
  obtain ⟨l, K0⟩ := Go.X.held_of Tryz.underlying64 (k := .i64) (by kernel_rfl) (by kernel_rfl) h0 (fun b off hm => hfz b off (by simp [hm]))
  have h1' := h1
  obtain ⟨L, hL, K1⟩ := Go.X.heldK_of (k := 4) (f := acw) (ok := fun a => 0 ≤ a.what ∧ a.what < 256) (by decide) (fun a => rfl) (fun a x hx φ => by
    unfold acw at hx
    simp only [List.mem_cons, List.not_mem_nil, or_false] at hx
    rcases hx with rfl | rfl | rfl | rfl <;> exact .int _ _) Tryz.underlying65 (by kernel_rfl) openAct h1 (fun b off hm => hfz b off (by simp [hm]))
  obtain ⟨w0, φ0, m0, R0, F0', L0, V0, S0', T0⟩ := Arm.hold (Go.X.R.first W) Arm.first0 K0
  obtain ⟨w1, φ1, m1, R1, F1', L1, V1, S1', T1⟩ := Arm.holdK R0 F0' (by decide) K1
  have hr := flows_ok (s0v := w0) (lv := w1) (l := l) (L := L) (S0'.ext T1) S1' hL
  have hw := law_calls (P := Tryz.prog) noCount mixed R1 (args' := #[.slice b0 len0 cap0, .slice b1 len1 cap1]) (.cons (V0.mono L1) (.cons V1 .nil)) hr
  refine Calls.mono hw fun e W' he => ?_
  obtain ⟨rfl, bel⟩ := he
  refine ⟨_, rfl, _, _, _, [], p0 ++ (p1 ++ []), [], hW', ?_, ?_, rfl, bel.frame _, fun h => by cases h⟩
  · exact trodAll_cons_mk (shut_bool Tryz.underlying4 _) trodAll_mk0
  · exact trodAll_cons_mk (bel.trod (by kernel_rfl) (by kernel_rfl) (by decide +kernel) h0 (fun x hx => hW'.lt x (by simp [hx]))) (trodAll_cons_mk (bel.trod (by kernel_rfl) (by kernel_rfl) (by decide +kernel) h1' (fun x hx => hW'.lt x (by simp [hx]))) (trodAll_mk0))

theorem checkFlows : Rows.CheckFlowsSaid :=
  OpenClaim.holds_of_wide 8 Tryz.f8 rfl rfl rfl rfl rfl rfl rfl ⟨rfl, rfl, rfl, rfl, rfl⟩ rfl rfl rfl rfl rfl (by kernel_rfl) Tryz.func8 (by kernel_rfl)
    (of_decide_eq_true (by kernel_rfl)) (by unfold Func.isWrapper; first | (rw [if_pos (by decide +kernel)]; kernel_rfl) | (rw [if_neg (by decide +kernel)]; exact ⟨rfl, rfl⟩))
    (fun os started H enc _ => liftedF os started H enc)
end Go.Proofs.YtdaedcoolcicoaaGreat
