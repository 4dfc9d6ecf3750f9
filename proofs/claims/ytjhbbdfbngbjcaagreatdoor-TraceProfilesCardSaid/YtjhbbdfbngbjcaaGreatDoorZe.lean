/- A piece of the evaluation of works. -/
import Derived.Test.YtjhbbdfbngbjcaaGreatDoorZd
import Derived.Test.YtjhbbdfbngbjcaaGreatDoorProg
import Derived.ProofKit
namespace Go.Proofs.YtjhbbdfbngbjcaaGreatDoor
noncomputable section
open Go Go.X
abbrev vI (n : Int) : Value := .int .i64 n
abbrev vQ (l : List UInt8) : Value := .string ⟨⟨l⟩⟩
abbrev vO : Value := .pointer none
abbrev vP (b o : Nat) : Value := .pointer (some ⟨b, o, none⟩)
abbrev vR (b o l : Nat) : Value := .slice (some ⟨b, o, none⟩) l open_
abbrev vS (b o l c : Nat) : Value := .slice (some ⟨b, o, none⟩) l c
abbrev vN : Value := .slice none 0 0
abbrev tE {α : Type} : T α := .e
abbrev tL {α : Type} (v : α) : T α := .n .e (some v) .e
abbrev tN {α : Type} (l : T α) (v : α) (r : T α) : T α := .n l (some v) r
abbrev tM {α : Type} (l r : T α) : T α := .n l none r
abbrev oC (l : List Value) (n op : Nat) : AObj := .cells (T.fill l 0 .e) n op false
theorem noCount : NoCount Tryz.prog := noCount_of (by decide +kernel)
theorem mixed : Tryz.prog.follows .mixedOrders = true := by kernel_rfl
abbrev cBase : Call1 := aRunW ov0 Tryz.prog 1000 60
theorem cBase_ok (W : World) : CallsOk W Tryz.prog cBase := runW_callsOk noCount mixed 1000 (fun _ h => ov0_ok h) 60
def tab97 : VTab := [([vI 2], .tuple ⟨[.agg ⟨[vI 3, .bool false, .bool false, .bool false, .bool false, vQ [115, 101, 110, 100]]⟩, .bool true]⟩), ([vI 3], .tuple ⟨[.agg ⟨[vI 2, .bool true, .bool false, .bool false, .bool false, vQ [114, 101, 99, 118]]⟩, .bool true]⟩), ([vI 4], .tuple ⟨[.agg ⟨[vI 3, .bool true, .bool false, .bool false, .bool false, vQ [105, 115, 101, 110, 100]]⟩, .bool true]⟩), ([vI 5], .tuple ⟨[.agg ⟨[vI 2, .bool true, .bool true, .bool false, .bool false, vQ [105, 114, 101, 99, 118]]⟩, .bool true]⟩), ([vI 6], .tuple ⟨[.agg ⟨[vI 0, .bool true, .bool false, .bool false, .bool false, vQ [119, 97, 105, 116]]⟩, .bool true]⟩), ([vI 7], .tuple ⟨[.agg ⟨[vI 0, .bool false, .bool false, .bool false, .bool false, vQ [98, 97, 114, 114, 105, 101, 114]]⟩, .bool true]⟩), ([vI 8], .tuple ⟨[.agg ⟨[vI 1, .bool true, .bool false, .bool false, .bool false, vQ [98, 99, 97, 115, 116]]⟩, .bool true]⟩), ([vI 9], .tuple ⟨[.agg ⟨[vI 0, .bool true, .bool false, .bool false, .bool false, vQ [114, 101, 100, 117, 99, 101]]⟩, .bool true]⟩), ([vI 10], .tuple ⟨[.agg ⟨[vI 1, .bool false, .bool false, .bool false, .bool false, vQ [112, 114, 105, 110, 116]]⟩, .bool true]⟩), ([vI 11], .tuple ⟨[.agg ⟨[vI 1, .bool false, .bool false, .bool false, .bool false, vQ [119, 111, 114, 107]]⟩, .bool true]⟩), ([vI 12], .tuple ⟨[.agg ⟨[vI 1, .bool false, .bool false, .bool true, .bool true, vQ [105, 102]]⟩, .bool true]⟩), ([vI 13], .tuple ⟨[.agg ⟨[vI 1, .bool false, .bool false, .bool true, .bool false, vQ [119, 104, 105, 108, 101]]⟩, .bool true]⟩), ([vI 20], .tuple ⟨[.agg ⟨[vI 0, .bool false, .bool false, .bool false, .bool false, vQ []]⟩, .bool true]⟩), ([vI 21], .tuple ⟨[.agg ⟨[vI 0, .bool true, .bool false, .bool false, .bool false, vQ []]⟩, .bool true]⟩), ([vI 22], .tuple ⟨[.agg ⟨[vI 0, .bool false, .bool false, .bool false, .bool false, vQ []]⟩, .bool true]⟩), ([vI 24], .tuple ⟨[.agg ⟨[vI 0, .bool false, .bool false, .bool false, .bool false, vQ []]⟩, .bool true]⟩), ([vI 31], .tuple ⟨[.agg ⟨[vI 2, .bool false, .bool false, .bool false, .bool false, vQ []]⟩, .bool true]⟩), ([vI 35], .tuple ⟨[.agg ⟨[vI 2, .bool false, .bool false, .bool false, .bool false, vQ []]⟩, .bool true]⟩)]
set_option maxRecDepth 100000 in
theorem tab97_is : (tab97.map fun p => Go.X.valOf (cBase (.enter 97 p.1) ah0)) = tab97.map fun p => some p.2 := by kernel_rfl
theorem tab97_plain : (tab97.all fun p => p.1.all pfv && pfv p.2) = true := by kernel_rfl
theorem tab97_good : VGood Tryz.prog 97 tab97 := vgood_of noCount mixed cBase_ok tab97_is tab97_plain
def tab103 : VTab := [([vQ [120]], .bool true), ([vQ [121]], .bool true), ([vQ []], .bool false)]
set_option maxRecDepth 100000 in
theorem tab103_is : (tab103.map fun p => Go.X.valOf (cBase (.enter 103 p.1) ah0)) = tab103.map fun p => some p.2 := by kernel_rfl
theorem tab103_plain : (tab103.all fun p => p.1.all pfv && pfv p.2) = true := by kernel_rfl
theorem tab103_good : VGood Tryz.prog 103 tab103 := vgood_of noCount mixed cBase_ok tab103_is tab103_plain
def tab133 : VTab := [([vQ [120]], .bool false), ([vQ [121]], .bool false)]
set_option maxRecDepth 100000 in
theorem tab133_is : (tab133.map fun p => Go.X.valOf (cBase (.enter 133 p.1) ah0)) = tab133.map fun p => some p.2 := by kernel_rfl
theorem tab133_plain : (tab133.all fun p => p.1.all pfv && pfv p.2) = true := by kernel_rfl
theorem tab133_good : VGood Tryz.prog 133 tab133 := vgood_of noCount mixed cBase_ok tab133_is tab133_plain
def ov (c : Call1) : Call1 := knownVals 133 tab133 (knownVals 103 tab103 (knownVals 97 tab97 (dropCall [6, 16, 67, 39, 8, 32, 17, 20, 33] (knownD Tryz.prog 1000 2 16 (c)))))
theorem ov_ok (w0 : World) (c : Call1) (hc : CallsOk w0 Tryz.prog c) : CallsOk w0 Tryz.prog (ov c) := knownVals_ok tab133_good (knownVals_ok tab103_good (knownVals_ok tab97_good (dropCall_ok (knownD_ok noCount mixed 1000 2 (hc)))))
abbrev entered : List FuncId := [35, 17, 20, 33]
abbrev dropped : List FuncId := [6, 16, 67, 39, 8, 32, 17, 20, 33]
theorem entered_ok : ∀ g, entered.contains g = true → ∀ c args h, ov c (.enter g args) h = lowR (markOf dropped g h) (c (.enter g args) h) := by
  intro g hg c args h
  have hm : g ∈ entered := by simpa using hg
  simp only [entered, List.mem_cons, List.not_mem_nil, or_false] at hm
  rcases hm with rfl | rfl | rfl | rfl <;> cases args <;> rfl
end
end Go.Proofs.YtjhbbdfbngbjcaaGreatDoor
