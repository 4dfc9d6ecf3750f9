/- A part of the proof. -/
import Derived.Test.YtdaedcoolcicoaaCoreI
import Derived.Test.YtdaedcoolcicoaaFacts
import Derived.Test.YtdaedcoolcicoaaRows
import Derived.Deep.Slices
import Derived.Carry
namespace Go.Arm
open Go Go.RowKit Go.Proofs

def claimAll (w : World) : St where
  w := w
  g b := match w.heap[b]? with | some (.cells c _ _) => c.size | _ => 0
  ok b h := by rw [Array.getElem?_eq_none h]

theorem claimAll_at {w : World} {b o : Nat} {v : Value} (h : w.cell? ⟨b, o, none⟩ = some v) : o < (claimAll w).g b := by
  unfold World.cell? at h
  simp only [claimAll]
  split at h
  · rename_i e
    rw [e]
    exact (Array.getElem?_eq_some_iff.1 h).1
  · cases h

/-- A type whose readings are data. -/
def Opens (P : Program) (t : TypeId) (α : Type) [Rep α] (ok : α → Prop) : Prop :=
  ∀ {H : Type} (enc : TypeId × Value → H) (w : World) (base : Nat) (spare : Nat → Bool) (held : Bool) (fuel : Nat) (cs : List Value) (x : DataW H × List MemPlace),
    DataW.trod enc P w base spare held fuel t cs = some x → ∃ a : α, ok a ∧ Rep.rel (claimAll w) cs a

theorem Opens.int {P : Program} {t : TypeId} (ht : P.underlying t = some (.int .i64)) : Opens P t Int (fun n => (Lit.int .i64 n).wf = true) := by
  intro H enc w base spare held fuel cs x h
  obtain ⟨n, h1, _, h2⟩ := DataW.trod_int ht h
  exact ⟨n, h2, h1⟩
theorem Opens.u8 {P : Program} {t : TypeId} (ht : P.underlying t = some (.int .u8)) : Opens P t U8 (fun n => (Lit.int .u8 n.n).wf = true) := by
  intro H enc w base spare held fuel cs x h
  obtain ⟨n, h1, _, h2⟩ := DataW.trod_int ht h
  exact ⟨⟨n⟩, h2, h1⟩
theorem Opens.bool {P : Program} {t : TypeId} (ht : P.underlying t = some .bool) : Opens P t Bool (fun _ => True) := by
  intro H enc w base spare held fuel cs x h
  obtain ⟨n, h1, _⟩ := DataW.trod_bool ht h
  exact ⟨n, trivial, h1⟩
theorem Opens.list {P : Program} {t e : TypeId} {α : Type} [Rep α] {ok : α → Prop} (ht : P.underlying t = some (.slice e)) (hc : P.cellsOf e = Rep.size α) (hpos : 0 < Rep.size α) (ho : Opens P e α ok) :
    Opens P t (List α) (fun xs => xs.length ≤ maxLen ∧ ∀ x ∈ xs, ok x) := by
  intro H enc w base spare held fuel cs x h
  rcases Deep.open_slice ht h with ⟨rfl, _⟩ | ⟨a, len, cap, m, n, D, Pl, rfl, _, hlc, hcm, hm, _, hall⟩
  · exact ⟨[], ⟨by simp, by simp⟩, none, 0, rfl, Nat.le_refl _, fun h => (h rfl).elim⟩
  · have hlm : len ≤ m := by rw [hm]; split <;> omega
    have key : ∀ i, i < len → ∃ x : α, ok x ∧ ∃ cs', Rep.rel (claimAll w) cs' x ∧ w.cells? base (a.add (i * P.cellsOf e)) (P.cellsOf e) = some cs' := by
      intro i hi
      obtain ⟨cs', h1, h2⟩ := hall i (by omega)
      obtain ⟨x, h3, h4⟩ := ho enc w base spare held n cs' _ h2
      exact ⟨x, h3, cs', h4, h1⟩
    obtain ⟨b, off, spot⟩ := a
    refine ⟨List.ofFn (fun i : Fin len => Classical.choose (key i.1 i.2)), ?_, some ⟨b, off, spot⟩, cap, by simp, by simpa using hlc, fun hne => ?_⟩
    · refine ⟨by simp; omega, fun x hx => ?_⟩
      rw [List.mem_ofFn] at hx
      obtain ⟨i, rfl⟩ := hx
      exact (Classical.choose_spec (key i.1 i.2)).1
    · have hlen : 0 < len := by
        rcases Nat.eq_zero_or_pos len with h0 | h0
        · subst h0; simp at hne
        · exact h0
      have hspot : spot = none := by
        obtain ⟨_, _, cs', _, h1⟩ := key 0 hlen
        obtain ⟨_, h2, h3⟩ := World.cells?_some h1
        have h4 := h3 0 (by omega)
        rw [List.getElem?_eq_getElem (by omega)] at h4
        simpa [Addr.add] using World.cell?_spot h4
      subst hspot
      refine ⟨b, off, rfl, fun i hi => ?_⟩
      have hi' : i < len := by simpa using hi
      obtain ⟨_, cs', h5, h6⟩ := Classical.choose_spec (key i hi')
      refine ⟨cs', by simpa using h5, fun j hj => ?_⟩
      obtain ⟨_, h2, h3⟩ := World.cells?_some h6
      have h4 := h3 j (by omega)
      rw [List.getElem?_eq_getElem hj, hc] at h4
      have h7 : w.cell? ⟨b, off + i * Rep.size α + j, none⟩ = some cs'[j] := by rw [WideShapes.add_plain, WideShapes.add_plain] at h4; exact h4
      exact ⟨h7, claimAll_at h7⟩

theorem Opens.sl {P : Program} {t : TypeId} {α : Type} [Rep α] {ok : List α → Prop} (ho : Opens P t (List α) ok) {H : Type} {enc : TypeId × Value → H} {w : World} {base : Nat} {spare : Nat → Bool} {held : Bool} {b : Option Addr} {len cap : Nat} {d : DataW H} {ps : List MemPlace}
    (h : DataW.Trod enc P w base spare held t (.slice b len cap) d ps) : ∃ a : List α, ok a ∧ V (claimAll w) (.slice b len cap) a := by
  obtain ⟨fuel, h⟩ := h
  obtain ⟨a, h1, h2⟩ := ho enc w base spare held fuel _ _ h
  exact ⟨a, h1, _, h2, rfl⟩
theorem Trod.int {P : Program} {t : TypeId} {k : IntKind} (ht : P.underlying t = some (.int k)) {H : Type} {enc : TypeId × Value → H} {w : World} {base : Nat} {spare : Nat → Bool} {held : Bool} {n : Int} {d : DataW H} {ps : List MemPlace}
    (h : DataW.Trod enc P w base spare held t (.int k n) d ps) : (Lit.int k n).wf = true := by
  obtain ⟨fuel, h⟩ := h
  obtain ⟨n', h1, _, h2⟩ := DataW.trod_int ht h
  have : [Value.int k n] = [Value.int k n'] := h1
  cases this
  exact h2
theorem openBytes : Opens Try.prog 22 (List U8) (fun xs => xs.length ≤ maxLen ∧ ∀ x ∈ xs, (Lit.int .u8 x.n).wf = true) := Opens.list Try.underlying22 (by kernel_rfl) (by decide) (Opens.u8 Try.underlying5)
theorem pairOf {l : List Value} (h : l.length = 2) : ∃ a b, l = [a, b] := by
  match l, h with
  | [a, b], _ => exact ⟨a, b, rfl⟩
theorem openItem : Opens Try.prog 55 Item (fun _ => True) := by
  intro H enc w base spare held fuel cs x h
  obtain ⟨xs, n, _, _, hl, hxs, hf⟩ := DataW.trod_struct Try.underlying55 h
  have hcell : Try.prog.cellsOf 55 = 2 := by kernel_rfl
  have hc3 : Try.prog.cellsOf 3 = 1 := by kernel_rfl
  rw [hcell] at hl
  obtain ⟨c0, c1, rfl⟩ := pairOf hl
  have hx : ∀ i, i < 2 → ∃ y, xs[i]? = some y := fun i hi => ⟨_, List.getElem?_eq_getElem (by rw [hxs]; exact hi)⟩
  obtain ⟨y0, e0⟩ := hx 0 (by decide)
  obtain ⟨y1, e1⟩ := hx 1 (by decide)
  have f0 : DataW.trod enc Try.prog w base spare held n 3 (([c0, c1].drop 0).take (Try.prog.cellsOf 3)) = some y0 := (hf 0 _ rfl).trans e0
  rw [hc3] at f0
  have f1 : DataW.trod enc Try.prog w base spare held n 3 (([c0, c1].drop 1).take (Try.prog.cellsOf 3)) = some y1 := (hf 1 _ rfl).trans e1
  rw [hc3] at f1
  obtain ⟨n0, h0, _, _⟩ := DataW.trod_int Try.underlying3 f0
  obtain ⟨n1, h1, _, _⟩ := DataW.trod_int Try.underlying3 f1
  simp at h0 h1
  subst h0 h1
  exact ⟨⟨n0, n1⟩, trivial, _, _, rfl, rfl, rfl⟩
theorem openItemL : Opens Try.prog 50 (List Item) (fun xs => xs.length ≤ maxLen ∧ ∀ x ∈ xs, True) := Opens.list Try.underlying50 (by kernel_rfl) (by decide) openItem
theorem openItems : Opens Try.prog 49 (List (List Item)) (fun xs => xs.length ≤ maxLen ∧ ∀ x ∈ xs, x.length ≤ maxLen ∧ ∀ y ∈ x, True) := Opens.list Try.underlying49 (by kernel_rfl) (by decide) openItemL
theorem openInts : Opens Try.prog 40 (List Int) (fun xs => xs.length ≤ maxLen ∧ ∀ x ∈ xs, (Lit.int .i64 x).wf = true) := Opens.list Try.underlying40 (by kernel_rfl) (by decide) (Opens.int Try.underlying3)
end Go.Arm
