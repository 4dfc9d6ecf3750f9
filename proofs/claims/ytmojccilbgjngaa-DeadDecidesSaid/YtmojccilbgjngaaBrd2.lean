/- Plain laws. -/
import Derived.Test.YtmojccilbgjngaaBrd
namespace Go.Arm
open Go Go.RowKit Go.Proofs

theorem opens74 : Opens Try.prog 74 Deed DeedOk := by
 intro H enc w base spare held fuel cs x h
 obtain ⟨xs, n, _, _, hl, hxs, hf⟩ := DataW.trod_struct Try.underlying74 h
 have hcell : Try.prog.cellsOf 74 = 5 := by kernel_rfl
 have hc3 : Try.prog.cellsOf 3 = 1 := by kernel_rfl
 have hc4 : Try.prog.cellsOf 4 = 1 := by kernel_rfl
 rw [hcell] at hl
 obtain ⟨c0, c1, c2, c3, c4, rfl⟩ := five hl
 ·have hx : ∀ i, i < 5 → ∃ y, xs[i]? = some y := fun i hi => ⟨_, List.getElem?_eq_getElem (by rw [hxs]; exact hi)⟩
  obtain ⟨y0, e0⟩ := hx 0 (by decide)
  obtain ⟨y1, e1⟩ := hx 1 (by decide)
  obtain ⟨y2, e2⟩ := hx 2 (by decide)
  obtain ⟨y3, e3⟩ := hx 3 (by decide)
  obtain ⟨y4, e4⟩ := hx 4 (by decide)
  have f0 : DataW.trod enc Try.prog w base spare held n 3 (([c0, c1, c2, c3, c4].drop 0).take (Try.prog.cellsOf 3)) = some y0 := (hf 0 _ rfl).trans e0
  rw [hc3] at f0
  have f1 : DataW.trod enc Try.prog w base spare held n 3 (([c0, c1, c2, c3, c4].drop 1).take (Try.prog.cellsOf 3)) = some y1 := (hf 1 _ rfl).trans e1
  rw [hc3] at f1
  have f2 : DataW.trod enc Try.prog w base spare held n 3 (([c0, c1, c2, c3, c4].drop 2).take (Try.prog.cellsOf 3)) = some y2 := (hf 2 _ rfl).trans e2
  rw [hc3] at f2
  have f3 : DataW.trod enc Try.prog w base spare held n 3 (([c0, c1, c2, c3, c4].drop 3).take (Try.prog.cellsOf 3)) = some y3 := (hf 3 _ rfl).trans e3
  rw [hc3] at f3
  have f4 : DataW.trod enc Try.prog w base spare held n 4 (([c0, c1, c2, c3, c4].drop 4).take (Try.prog.cellsOf 4)) = some y4 := (hf 4 _ rfl).trans e4
  rw [hc4] at f4
  obtain ⟨n0, h0, _, w0⟩ := DataW.trod_int Try.underlying3 f0
  obtain ⟨n1, h1, _, w1⟩ := DataW.trod_int Try.underlying3 f1
  obtain ⟨n2, h2, _, w2⟩ := DataW.trod_int Try.underlying3 f2
  obtain ⟨n3, h3, _, w3⟩ := DataW.trod_int Try.underlying3 f3
  obtain ⟨n4, h4, _⟩ := DataW.trod_bool Try.underlying4 f4
  simp at h0 h1 h2 h3 h4
  subst h0 h1 h2 h3 h4
  exact ⟨⟨n0, n1, n2, n3, n4⟩, ⟨w0, w1, w2, w3⟩, _, _, _, _, _, rfl, rfl, rfl, rfl, rfl, rfl⟩
theorem opens65 : Opens Try.prog 65 (List Deed) (ListOk DeedOk) := Opens.list Try.underlying65 (by kernel_rfl) (by decide) opens74
theorem opens22 : Opens Try.prog 22 (List (List Deed)) (ListOk (ListOk DeedOk)) := Opens.list Try.underlying22 (by kernel_rfl) (by decide) opens65
end Go.Arm
