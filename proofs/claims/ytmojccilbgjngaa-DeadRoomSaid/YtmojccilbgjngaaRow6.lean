/- Proved here: DeadRoomSaid, the given row of DeadRoom, for every input and with no condition of its own. -/
import Derived.Test.YtmojccilbgjngaaBrd
import Derived.Test.YtmojccilbgjngaaPl10
import Derived.Test.YtmojccilbgjngaaRows
import Derived.WalkKit
import Derived.ProofKit
import Derived.OpenShut
namespace Go.Proofs.Ytmojccilbgjngaa
open Go Go.ChangeShapes Go.WideShapes Go.ChangeAt Go.RowKit Go.Arm

theorem own : ownKnob Try.prog.godebug = none := by kernel_rfl

set_option maxRecDepth 100000 in
theorem room_lifted (law : ∀ c : List (List Deed), law08_DeadRoom 1300 c = some true) (os : Os) (started : os.Started) (H : Type) (enc : TypeId × Value → H) :
    ReturnsInHanded {} Try.checked os 6 .any (Rows.deadRoomSpec.pre6 enc Try.prog Try.f6 Rows.deadRoomRow.domain false) (Rows.deadRoomSpec.post enc Try.prog Try.f6 false true false false) := by
  refine returnsInHanded_of_change (C := Try.checked) own started (by kernel_rfl) Try.func6
    (ChangeSpec.witness6 (enc := enc) (C := Try.checked) false ⟨#[], #[.slice none 0 0], []⟩ 6 (by kernel_rfl) (by kernel_rfl) (by kernel_rfl) (by kernel_rfl)) ?_
  intro W base args ds gs before hval0 hW hcnd _
  have hval : ∀ (j : Nat) t v, Try.f6.params[j]? = some t → args[j]? = some v → Value.okWide Try.prog W .any base t v := hval0
  have hW' := hW
  obtain ⟨p, q, hA0, hV, rfl, hfz, hnd⟩ := hW
  have hA : DataW.TrodAll enc Try.prog W 0 (fun _ => true) true Try.f6.params.toList args.toList ds p := hA0
  rw [Try.params6] at hA hval
  obtain ⟨v0, vs0, d0, ds0, p0, q0, hargs, rfl, rfl, h0, r0⟩ := trodAll_cons hA
  obtain ⟨rfl, rfl, rfl⟩ := trodAll_nil r0
  obtain rfl : args = #[v0] := by cases args; simp_all
  obtain ⟨rfl, rfl⟩ := trodVars_none hV
  obtain ⟨a0, len, cap, rfl⟩ := okWide_slice Try.underlying29 (hval 0 29 v0 rfl rfl)
  clear hA0 hval0
  obtain ⟨c, _, hc⟩ := opens29.sl h0
  have hw := law08_DeadRoom_ok 1300 (claimAll W) _ c hc true (law c)
  refine Calls.mono hw fun e W' he => ?_
  obtain ⟨v, s, rfl, rfl, hE, hv⟩ := he
  obtain rfl := hv.bool
  have bel : Below W.heap.size W s.w := ⟨hE.os, hE.tape, hE.output, hE.size, fun k hk => hE.block k hk (fun x => x)⟩
  refine ⟨_, rfl, _, _, _, [], p0 ++ [], [], hW', ?_, ?_, rfl, bel.frame _, fun h => by cases h⟩
  · exact trodAll_cons_mk (shut_bool Try.underlying4 _) trodAll_mk0
  · exact trodAll_cons_mk (bel.trod (by kernel_rfl) (by kernel_rfl) (by decide +kernel) h0 (fun x hx => hW'.lt x (by simp [hx]))) trodAll_mk0

theorem room_over (law : ∀ c : List (List Deed), law08_DeadRoom 1300 c = some true) : Rows.DeadRoomSaid :=
  OpenClaim.holds_of_wide 6 Try.f6 rfl rfl rfl rfl rfl rfl rfl ⟨rfl, rfl, rfl, rfl, rfl⟩ rfl rfl rfl rfl rfl (by kernel_rfl) Try.func6 (by kernel_rfl)
    (of_decide_eq_true (by kernel_rfl)) (by unfold Func.isWrapper; first | (rw [if_pos (by decide +kernel)]; kernel_rfl) | (rw [if_neg (by decide +kernel)]; exact ⟨rfl, rfl⟩))
    (fun os started H enc _ => room_lifted law os started H enc)
theorem deadRoom : Rows.DeadRoomSaid := room_over law_room
end Go.Proofs.Ytmojccilbgjngaa
