/- Proved here: MatchAgainSaid, the given row of MatchAgain, for every input and with no condition of its own. -/
import Derived.Test.YtmehemeoaplepaaZs
namespace Go.Proofs.Ytmehemeoaplepaa
open Go Go.ChangeShapes Go.WideShapes Go.ChangeAt Go.RowKit
set_option maxRecDepth 100000 in
theorem lifted7 (os : Os) (started : os.Started) (H : Type) (enc : TypeId × Value → H) :
   ReturnsInHanded {} Try.checked os 7 .any (Rows.matchAgainSpec.pre6 enc Try.prog Try.f7 Rows.matchAgainRow.domain false) (Rows.matchAgainSpec.post enc Try.prog Try.f7 false true false false) := by
 refine returnsInHanded_of_change (C := Try.checked) own started (by kernel_rfl) Try.func7
   (ChangeSpec.witness6 (enc := enc) (C := Try.checked) false ⟨#[], #[.int .u8 0, .bool false, .slice none 0 0], []⟩ 7 (by kernel_rfl) (by kernel_rfl) (by kernel_rfl) (by kernel_rfl)) ?_
 intro W base args ds gs before hval0 hW hcnd _
 have hval : ∀ (j : Nat) t v, Try.f7.params[j]? = some t → args[j]? = some v → Value.okWide Try.prog W .any base t v := hval0
 have hW' := hW
 obtain ⟨p, q, hA0, hV, rfl, hfz, hnd⟩ := hW
 have hA : DataW.TrodAll enc Try.prog W 0 (fun _ => true) true Try.f7.params.toList args.toList ds p := hA0
 rw [Try.params7] at hA hval
 obtain ⟨v0, vs0, d0, ds0, p0, q0, hargs0, rfl, rfl, h0, r0⟩ := trodAll_cons hA
 obtain ⟨v1, vs1, d1, ds1, p1, q1, hargs1, rfl, rfl, h1, r1⟩ := trodAll_cons r0
 obtain ⟨v2, vs2, d2, ds2, p2, q2, hargs2, rfl, rfl, h2, r2⟩ := trodAll_cons r1
 obtain ⟨hargs3, rfl, rfl⟩ := trodAll_nil r2
 obtain rfl : args = #[v0, v1, v2] := by cases args; simp_all
 clear hargs0 hargs1 hargs2 hargs3
 obtain ⟨rfl, rfl⟩ := trodVars_none hV
 obtain ⟨n0, rfl⟩ := okWide_int Try.underlying5 (hval 0 5 v0 rfl rfl)
 obtain ⟨n1, rfl⟩ := okWide_bool Try.underlying4 (hval 1 4 v1 rfl rfl)
 obtain ⟨b2, len2, cap2, rfl⟩ := okWide_slice Try.underlying65 (hval 2 65 v2 rfl rfl)
 clear hA0 hval0
 have k0 := u8in Try.underlying5 h0
 obtain ⟨V, K0, hrows⟩ := Go.X.heldC_of Try.underlying65 Try.underlying23 (by kernel_rfl) h2 (fun b off hm => hfz b off (by simp [hm]))
 have key : ∀ i, i < len2 → ∃ l : Go.Mt.By, Go.X.HeldK 1 W (V i) l.length (l.map Arm.bv) := fun i hi => by
   obtain ⟨b, l, c, d', ps', e, ht, hz⟩ := hrows i hi
   rw [e]
   exact bytes_of ht hz
 obtain ⟨L, hLd⟩ : ∃ L : Nat → Go.Mt.By, ∀ i, i < len2 → Go.X.HeldK 1 W (V i) (L i).length ((L i).map Arm.bv) := by
   refine ⟨fun i => if h : i < len2 then Classical.choose (key i h) else [], fun i hi => ?_⟩
   dsimp only; rw [dif_pos hi]; exact Classical.choose_spec (key i hi)
 obtain ⟨V', φ1, w1, R1, F1, L1, A1, S1⟩ := Arm.holdRows (C := fun i => (L i).map Arm.bv) (L := fun i => (L i).length) (by decide) len2 (Go.X.R.first W) Arm.first0 (fun i hi => hLd i hi)
 obtain ⟨u0, φ2, w2, R2, F2, L2, A2, G2, S2, _⟩ := Arm.holdR (l := (List.range len2).map V') R1 F1 (by decide) K0 (by simp) (fun i x y hx hy => by
   by_cases hi : i < len2
   · rw [List.getElem?_map, List.getElem?_range hi] at hx hy
     cases hx; cases hy
     exact (A1 i hi).1
   · rw [List.getElem?_eq_none (by simp; omega)] at hx; cases hx)
 have hr := again_ok (s := n1) k0 G2 (fun i hi => ((A1 i hi).2.1.ext S2).rb)
 have hw := law_calls (P := Try.prog) noCount mixed R2 (args' := #[.int .u8 n0, .bool n1, .slice b2 len2 cap2]) (.cons (.int _ _) (.cons (.bool _) (.cons A2 .nil))) hr
 refine Calls.mono hw fun e W' he => ?_
 obtain ⟨rfl, bel⟩ := he
 refine ⟨_, rfl, _, _, _, [], p0 ++ (p1 ++ (p2 ++ [])), [], hW', ?_, ?_, rfl, bel.frame _, fun h => by cases h⟩
 · exact trodAll_cons_mk (shut_bool Try.underlying4 _) trodAll_mk0
 · exact trodAll_cons_mk (bel.trod (by kernel_rfl) (by kernel_rfl) (by decide +kernel) h0 (fun x hx => hW'.lt x (by simp [hx]))) (trodAll_cons_mk (bel.trod (by kernel_rfl) (by kernel_rfl) (by decide +kernel) h1 (fun x hx => hW'.lt x (by simp [hx]))) (trodAll_cons_mk (bel.trod (by kernel_rfl) (by kernel_rfl) (by decide +kernel) h2 (fun x hx => hW'.lt x (by simp [hx]))) (trodAll_mk0)))
theorem matchAgain : Rows.MatchAgainSaid :=
 OpenClaim.holds_of_wide 7 Try.f7 rfl rfl rfl rfl rfl rfl rfl ⟨rfl, rfl, rfl, rfl, rfl⟩ rfl rfl rfl rfl rfl (by kernel_rfl) Try.func7 (by kernel_rfl)
  (of_decide_eq_true (by kernel_rfl)) (by unfold Func.isWrapper; first | (rw [if_pos (by decide +kernel)]; kernel_rfl) | (rw [if_neg (by decide +kernel)]; exact ⟨rfl, rfl⟩))
  (fun os started H enc _ => lifted7 os started H enc)
end Go.Proofs.Ytmehemeoaplepaa
