/- Proved here: MatchPartsSaid, the given row of MatchParts, for every input and with no condition of its own. -/
import Derived.Test.YtmehemeoaplepaaZq
import Derived.Test.YtmehemeoaplepaaZs
namespace Go.Proofs.Ytmehemeoaplepaa
open Go Go.ChangeShapes Go.WideShapes Go.ChangeAt Go.RowKit
set_option maxRecDepth 100000 in
theorem lifted6 (os : Os) (started : os.Started) (H : Type) (enc : TypeId × Value → H) :
   ReturnsInHanded {} Try.checked os 6 .any (Rows.matchPartsSpec.pre6 enc Try.prog Try.f6 Rows.matchPartsRow.domain false) (Rows.matchPartsSpec.post enc Try.prog Try.f6 false true false false) := by
 refine returnsInHanded_of_change (C := Try.checked) own started (by kernel_rfl) Try.func6
   (ChangeSpec.witness6 (enc := enc) (C := Try.checked) false ⟨#[], #[.int .u8 0, .int .u8 0, .slice none 0 0, .bool false], []⟩ 6 (by kernel_rfl) (by kernel_rfl) (by kernel_rfl) (by kernel_rfl)) ?_
 intro W base args ds gs before hval0 hW hcnd _
 have hval : ∀ (j : Nat) t v, Try.f6.params[j]? = some t → args[j]? = some v → Value.okWide Try.prog W .any base t v := hval0
 have hW' := hW
 obtain ⟨p, q, hA0, hV, rfl, hfz, hnd⟩ := hW
 have hA : DataW.TrodAll enc Try.prog W 0 (fun _ => true) true Try.f6.params.toList args.toList ds p := hA0
 rw [Try.params6] at hA hval
 obtain ⟨v0, vs0, d0, ds0, p0, q0, hargs0, rfl, rfl, h0, r0⟩ := trodAll_cons hA
 obtain ⟨v1, vs1, d1, ds1, p1, q1, hargs1, rfl, rfl, h1, r1⟩ := trodAll_cons r0
 obtain ⟨v2, vs2, d2, ds2, p2, q2, hargs2, rfl, rfl, h2, r2⟩ := trodAll_cons r1
 obtain ⟨v3, vs3, d3, ds3, p3, q3, hargs3, rfl, rfl, h3, r3⟩ := trodAll_cons r2
 obtain ⟨hargs4, rfl, rfl⟩ := trodAll_nil r3
 obtain rfl : args = #[v0, v1, v2, v3] := by cases args; simp_all
 clear hargs0 hargs1 hargs2 hargs3 hargs4
 obtain ⟨rfl, rfl⟩ := trodVars_none hV
 obtain ⟨n0, rfl⟩ := okWide_int Try.underlying5 (hval 0 5 v0 rfl rfl)
 obtain ⟨n1, rfl⟩ := okWide_int Try.underlying5 (hval 1 5 v1 rfl rfl)
 obtain ⟨b2, len2, cap2, rfl⟩ := okWide_slice Try.underlying23 (hval 2 23 v2 rfl rfl)
 obtain ⟨n3, rfl⟩ := okWide_bool Try.underlying4 (hval 3 4 v3 rfl rfl)
 clear hA0 hval0
 have k0 := u8in Try.underlying5 h0
 have k1 := u8in Try.underlying5 h1
 obtain ⟨x0, rfl⟩ : ∃ x : Nat, n0 = x := ⟨n0.toNat, by omega⟩
 obtain ⟨x1, rfl⟩ : ∃ x : Nat, n1 = x := ⟨n1.toNat, by omega⟩
 obtain ⟨os', K2⟩ := bytes_of h2 (fun b off hm => hfz b off (by simp [hm]))
 obtain ⟨u2, φ2, m2, R2, F2, L2, A2, G2, S2⟩ := Arm.holdK (Go.X.R.first W) Arm.first0 (by decide) K2
 have hr := plaw_ok (x1 := x0) (x2 := x1) (late := n3) (by omega) (by omega) G2
 have hw := law_calls (P := Try.prog) noCount mixed R2 (args' := #[.int .u8 x0, .int .u8 x1, .slice b2 len2 cap2, .bool n3]) (.cons (.int _ _) (.cons (.int _ _) (.cons A2 (.cons (.bool _) .nil)))) hr
 refine Calls.mono hw fun e W' he => ?_
 obtain ⟨rfl, bel⟩ := he
 refine ⟨_, rfl, _, _, _, [], p0 ++ (p1 ++ (p2 ++ (p3 ++ []))), [], hW', ?_, ?_, rfl, bel.frame _, fun h => by cases h⟩
 · exact trodAll_cons_mk (shut_bool Try.underlying4 _) trodAll_mk0
 · exact trodAll_cons_mk (bel.trod (by kernel_rfl) (by kernel_rfl) (by decide +kernel) h0 (fun x hx => hW'.lt x (by simp [hx]))) (trodAll_cons_mk (bel.trod (by kernel_rfl) (by kernel_rfl) (by decide +kernel) h1 (fun x hx => hW'.lt x (by simp [hx]))) (trodAll_cons_mk (bel.trod (by kernel_rfl) (by kernel_rfl) (by decide +kernel) h2 (fun x hx => hW'.lt x (by simp [hx])))
    (trodAll_cons_mk (bel.trod (by kernel_rfl) (by kernel_rfl) (by decide +kernel) h3 (fun x hx => hW'.lt x (by simp [hx]))) (trodAll_mk0))))
theorem matchParts : Rows.MatchPartsSaid :=
 OpenClaim.holds_of_wide 6 Try.f6 rfl rfl rfl rfl rfl rfl rfl ⟨rfl, rfl, rfl, rfl, rfl⟩ rfl rfl rfl rfl rfl (by kernel_rfl) Try.func6 (by kernel_rfl)
  (of_decide_eq_true (by kernel_rfl)) (by unfold Func.isWrapper; first | (rw [if_pos (by decide +kernel)]; kernel_rfl) | (rw [if_neg (by decide +kernel)]; exact ⟨rfl, rfl⟩))
  (fun os started H enc _ => lifted6 os started H enc)
end Go.Proofs.Ytmehemeoaplepaa
