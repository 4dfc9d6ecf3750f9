/- A part of the proof. -/
import Derived.Test.YtdaedcoolcicoaaFacts
import Derived.Test.YtdaedcoolcicoaaVzZ
namespace Go.Arm
open Go Go.RowKit Go.Proofs

def law14_works (_N : Nat) : Option Bool := some true
theorem law14_works_ok (N : Nat) (s0 : St) (r : Bool) (hr : law14_works N = some r) : Calls Try.prog 9 #[] s0.w (Ret s0 fun v s => V s v r) := by
  obtain rfl := Option.some.inj hr
  refine Calls.mono (Go.Proofs.Ytdaedcoolcicoaa.worksYes s0.w) ?_
  rintro e w' ⟨rfl, hb⟩
  obtain ⟨h1, h2, h3, h4, h5⟩ := hb
  let s' : St := ⟨w', s0.g, fun b hb => s0.ok b (Nat.le_trans h4 hb)⟩
  exact ⟨_, s', rfl, rfl, ⟨h1, h2, h3, h4, fun k hk _ => h5 k hk, fun _ _ _ => rfl, le_of_blocks h5 (fun _ _ => Nat.le_refl _)⟩, Vbool⟩
end Go.Arm
