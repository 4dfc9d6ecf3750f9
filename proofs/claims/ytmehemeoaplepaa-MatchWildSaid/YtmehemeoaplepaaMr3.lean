/- Proved here: MatchWildSaid, the given row of MatchWild, for every input and with no condition of its own. -/
import Derived.Test.YtmehemeoaplepaaZr
import Derived.Test.YtmehemeoaplepaaZs
namespace Go.Proofs.Ytmehemeoaplepaa
open Go Go.ChangeShapes Go.WideShapes Go.ChangeAt Go.RowKit
set_option maxRecDepth 100000 in
theorem lifted3 (os : Os) (started : os.Started) (H : Type) (enc : TypeId × Value → H) :
   ReturnsInHanded {} Try.checked os 3 .any (Rows.matchWildSpec.pre6 enc Try.prog Try.f3 Rows.matchWildRow.domain false) (Rows.matchWildSpec.post enc Try.prog Try.f3 false true false false) := by
 refine returnsInHanded_of_change (C := Try.checked) own started (by kernel_rfl) Try.func3
   (ChangeSpec.witness6 (enc := enc) (C := Try.checked) false ⟨#[], #[.int .u8 0, .int .u8 0, .int .u8 0, .slice none 0 0, .slice none 0 0], []⟩ 3 (by kernel_rfl) (by kernel_rfl) (by kernel_rfl) (by kernel_rfl)) ?_
 intro W base args ds gs before hval0 hW hcnd _
 have hval : ∀ (j : Nat) t v, Try.f3.params[j]? = some t → args[j]? = some v → Value.okWide Try.prog W .any base t v := hval0
 have hW' := hW
 obtain ⟨p, q, hA0, hV, rfl, hfz, hnd⟩ := hW
 have hA : DataW.TrodAll enc Try.prog W 0 (fun _ => true) true Try.f3.params.toList args.toList ds p := hA0
 rw [Try.params3] at hA hval
 obtain ⟨v0, vs0, d0, ds0, p0, q0, hargs0, rfl, rfl, h0, r0⟩ := trodAll_cons hA
 obtain ⟨v1, vs1, d1, ds1, p1, q1, hargs1, rfl, rfl, h1, r1⟩ := trodAll_cons r0
 obtain ⟨v2, vs2, d2, ds2, p2, q2, hargs2, rfl, rfl, h2, r2⟩ := trodAll_cons r1
 obtain ⟨v3, vs3, d3, ds3, p3, q3, hargs3, rfl, rfl, h3, r3⟩ := trodAll_cons r2
 obtain ⟨v4, vs4, d4, ds4, p4, q4, hargs4, rfl, rfl, h4, r4⟩ := trodAll_cons r3
 obtain ⟨hargs5, rfl, rfl⟩ := trodAll_nil r4
 obtain rfl : args = #[v0, v1, v2, v3, v4] := by cases args; simp_all
 clear hargs0 hargs1 hargs2 hargs3 hargs4 hargs5
 obtain ⟨rfl, rfl⟩ := trodVars_none hV
 obtain ⟨n0, rfl⟩ := okWide_int Try.underlying5 (hval 0 5 v0 rfl rfl)
 obtain ⟨n1, rfl⟩ := okWide_int Try.underlying5 (hval 1 5 v1 rfl rfl)
 obtain ⟨n2, rfl⟩ := okWide_int Try.underlying5 (hval 2 5 v2 rfl rfl)
 obtain ⟨b3, len3, cap3, rfl⟩ := okWide_slice Try.underlying22 (hval 3 22 v3 rfl rfl)
 obtain ⟨b4, len4, cap4, rfl⟩ := okWide_slice Try.underlying23 (hval 4 23 v4 rfl rfl)
 clear hA0 hval0
 have k0 := u8in Try.underlying5 h0
 have k1 := u8in Try.underlying5 h1
 have k2 := u8in Try.underlying5 h2
 obtain ⟨x0, rfl⟩ : ∃ x : Nat, n0 = x := ⟨n0.toNat, by omega⟩
 obtain ⟨x1, rfl⟩ : ∃ x : Nat, n1 = x := ⟨n1.toNat, by omega⟩
 obtain ⟨x2, rfl⟩ : ∃ x : Nat, n2 = x := ⟨n2.toNat, by omega⟩
 obtain ⟨l, hl, K3⟩ := moves_of h3 (fun b off hm => hfz b off (by simp [hm]))
 obtain ⟨os', K4⟩ := bytes_of h4 (fun b off hm => hfz b off (by simp [hm]))
 obtain ⟨u3, φ3, m3, R3, F3, L3, A3, G3, S3⟩ := Arm.holdK (Go.X.R.first W) Arm.first0 (by decide) K3
 obtain ⟨u4, φ4, m4, R4, F4, L4, A4, G4, S4⟩ := Arm.holdK R3 F3 (by decide) K4
 have hr := wild_ok (x1 := x0) (x2 := x1) (x3 := x2) (by omega) (by omega) (by omega) hl (G3.ext S4) G4
 have hw := law_calls (P := Try.prog) noCount mixed R4 (args' := #[.int .u8 x0, .int .u8 x1, .int .u8 x2, .slice b3 len3 cap3, .slice b4 len4 cap4]) (.cons (.int _ _) (.cons (.int _ _) (.cons (.int _ _) (.cons (A3.mono L4) (.cons A4 .nil))))) hr
 refine Calls.mono hw fun e W' he => ?_
 obtain ⟨rfl, bel⟩ := he
 refine ⟨_, rfl, _, _, _, [], p0 ++ (p1 ++ (p2 ++ (p3 ++ (p4 ++ [])))), [], hW', ?_, ?_, rfl, bel.frame _, fun h => by cases h⟩
 · exact trodAll_cons_mk (shut_bool Try.underlying4 _) trodAll_mk0
 · exact trodAll_cons_mk (bel.trod (by kernel_rfl) (by kernel_rfl) (by decide +kernel) h0 (fun x hx => hW'.lt x (by simp [hx]))) (trodAll_cons_mk (bel.trod (by kernel_rfl) (by kernel_rfl) (by decide +kernel) h1 (fun x hx => hW'.lt x (by simp [hx]))) (trodAll_cons_mk (bel.trod (by kernel_rfl) (by kernel_rfl) (by decide +kernel) h2 (fun x hx => hW'.lt x (by simp [hx])))
    (trodAll_cons_mk (bel.trod (by kernel_rfl) (by kernel_rfl) (by decide +kernel) h3 (fun x hx => hW'.lt x (by simp [hx]))) (trodAll_cons_mk (bel.trod (by kernel_rfl) (by kernel_rfl) (by decide +kernel) h4 (fun x hx => hW'.lt x (by simp [hx]))) (trodAll_mk0)))))
theorem matchWild : Rows.MatchWildSaid :=
 OpenClaim.holds_of_wide 3 Try.f3 rfl rfl rfl rfl rfl rfl rfl ⟨rfl, rfl, rfl, rfl, rfl⟩ rfl rfl rfl rfl rfl (by kernel_rfl) Try.func3 (by kernel_rfl)
  (of_decide_eq_true (by kernel_rfl)) (by unfold Func.isWrapper; first | (rw [if_pos (by decide +kernel)]; kernel_rfl) | (rw [if_neg (by decide +kernel)]; exact ⟨rfl, rfl⟩))
  (fun os started H enc _ => lifted3 os started H enc)
end Go.Proofs.Ytmehemeoaplepaa
