/- A part of the proof. -/
import Derived.Test.YtdaedcoolcicoaaZc
import Derived.WalkKit
import Derived.ProofKit
import Derived.OpenShut
import Derived.Deep.Slices
import Derived.Carry
namespace Go.X
noncomputable section
open Go Go.RowKit
/-- What a slice of numbers holds. -/
structure Held (k : IntKind) (w : World) (v : Value) (l : List Int) : Prop where
  wf : ∀ x, x ∈ l → (Lit.int k x).wf = true
  has : (v = .slice none 0 0 ∧ l = []) ∨ ∃ a cap, v = .slice (some a) l.length cap ∧ l.length ≤ cap ∧ cap ≤ maxLen ∧ (0 < cap → a.spot = none ∧ a.block < w.heap.size) ∧
    ∀ i, i < l.length → w.cell? ⟨a.block, a.off + i, none⟩ = (l[i]?).map (.int k) ∧ w.frozen? ⟨a.block, a.off + i, none⟩ = false
theorem held_of {P : Program} {t e : TypeId} {k : IntKind} (ht : P.underlying t = some (.slice e)) (he : P.underlying e = some (.int k)) (hc : P.cellsOf e = 1) {H : Type} {enc : TypeId × Value → H} {w : World} {held : Bool} {b0 : Option Addr} {len0 cap0 : Nat} {d : DataW H} {ps : List MemPlace}
    (h : DataW.Trod enc P w 0 (fun _ => true) held t (.slice b0 len0 cap0) d ps) (hf : w.noneFrozen ps) : ∃ l, Held k w (.slice b0 len0 cap0) l := by
  obtain ⟨fuel, h⟩ := h
  rcases Deep.open_slice1 ht hc h with ⟨e1, _⟩ | ⟨a, len, cap, m, n, V, D, Pl, e1, _, hlc, hcm, hm, hx, hall⟩
  · have e1 : [Value.slice b0 len0 cap0] = [.slice none 0 0] := e1
    cases e1
    exact ⟨[], fun x hx => by (cases hx), .inl ⟨rfl, rfl⟩⟩
  · have e1 : [Value.slice b0 len0 cap0] = [.slice (some a) len cap] := e1
    cases e1
    have hm : m = cap0 := by simpa using hm
    have key : ∀ i, i < m → ∃ z : Int, V i = .int k z ∧ (Lit.int k z).wf = true := by
      intro i hi
      obtain ⟨_, h2⟩ := hall i hi
      obtain ⟨z, h3, _, h4⟩ := DataW.trod_int he h2
      have h3 : [V i] = [Value.int k z] := h3
      exact ⟨z, (List.cons.inj h3).1, h4⟩
    obtain ⟨b, off, spot⟩ := a
    have hspot : 0 < cap0 → spot = none ∧ b < w.heap.size := by
      intro h0
      have h4 := (hall 0 (by omega)).1
      have hs : spot = none := by simpa [Addr.add] using World.cell?_spot h4
      refine ⟨hs, ?_⟩
      unfold World.cell? at h4
      split at h4
      · rename_i e5; exact (Array.getElem?_eq_some_iff.1 e5).1
      · cases h4
    refine ⟨List.ofFn (fun i : Fin len0 => Classical.choose (key i.1 (by omega))), fun x hx => ?_, .inr ⟨⟨b, off, spot⟩, cap0, by simp, by simpa using hlc, hcm, hspot, fun i hi => ?_⟩⟩
    · rw [List.mem_ofFn] at hx
      obtain ⟨i, rfl⟩ := hx
      exact (Classical.choose_spec (key i.1 (by omega))).2
    · have hi' : i < len0 := by simpa using hi
      obtain ⟨hs, _⟩ := hspot (by omega)
      subst hs
      have h4 := (hall i (by omega)).1
      have h7 : w.cell? ⟨b, off + i, none⟩ = some (V i) := by rw [WideShapes.add_plain] at h4; exact h4
      refine ⟨?_, ?_⟩
      · rw [h7, (Classical.choose_spec (key i (by omega))).1]
        simp [hi']
      · have hps : MemPlace.cell b (off + i) ∈ ps := by
          have hx2 : ps = MemPlace.row ⟨b, off, none⟩ m ++ (List.range m).flatMap Pl := (Prod.mk.inj hx).2
          rw [hx2]
          refine List.mem_append_left _ ?_
          unfold MemPlace.row
          simp only [List.mem_map, List.mem_range]
          exact ⟨i, by omega, by simp⟩
        exact hf b (off + i) hps
end
end Go.X
