/- A piece of the evaluation of works. -/
import Derived.Test.YtlgakeilplnfmaaGreatDoorZg
import Derived.Test.YtlgakeilplnfmaaGreatDoorZj
import Derived.Test.YtlgakeilplnfmaaGreatDoorProg
import Derived.ProofKit
namespace Go.Proofs.YtlgakeilplnfmaaGreatDoor
noncomputable section
open Go Go.X
abbrev vI (n : Int) : Value := .int .i64 n
abbrev vQ (l : List UInt8) : Value := .string ⟨⟨l⟩⟩
abbrev vP (b o : Nat) : Value := .pointer (some ⟨b, o, none⟩)
abbrev vR (b o l : Nat) : Value := .slice (some ⟨b, o, none⟩) l open_
abbrev vS (b o l c : Nat) : Value := .slice (some ⟨b, o, none⟩) l c
abbrev vN : Value := .slice none 0 0
abbrev oC (l : List Value) (n op : Nat) : AObj := .cells (T.fill l 0 .e) n op false
theorem noCount : NoCount Tryz.prog := noCount_of (by decide +kernel)
theorem mixed : Tryz.prog.follows .mixedOrders = true := by kernel_rfl
abbrev cBase : Call1 := aRunW ov0 Tryz.prog 1000 60
theorem cBase_ok (W : World) : CallsOk W Tryz.prog cBase := runW_callsOk noCount mixed 1000 (fun _ h => ov0_ok h) 60
def tab41 : VTab := [([vI 1], .tuple ⟨[.agg ⟨[vI 1, .bool true, .bool false, .bool false, .bool false, vQ []]⟩, .bool true]⟩), ([vI 2], .tuple ⟨[.agg ⟨[vI 3, .bool false, .bool false, .bool false, .bool false, vQ [115, 101, 110, 100]]⟩, .bool true]⟩), ([vI 3], .tuple ⟨[.agg ⟨[vI 2, .bool true, .bool false, .bool false, .bool false, vQ [114, 101, 99, 118]]⟩, .bool true]⟩), ([vI 4], .tuple ⟨[.agg ⟨[vI 3, .bool true, .bool false, .bool false, .bool false, vQ [105, 115, 101, 110, 100]]⟩, .bool true]⟩), ([vI 5], .tuple ⟨[.agg ⟨[vI 2, .bool true, .bool true, .bool false, .bool false, vQ [105, 114, 101, 99, 118]]⟩, .bool true]⟩), ([vI 6], .tuple ⟨[.agg ⟨[vI 0, .bool true, .bool false, .bool false, .bool false, vQ [119, 97, 105, 116]]⟩, .bool true]⟩), ([vI 7], .tuple ⟨[.agg ⟨[vI 0, .bool false, .bool false, .bool false, .bool false, vQ [98, 97, 114, 114, 105, 101, 114]]⟩, .bool true]⟩), ([vI 8], .tuple ⟨[.agg ⟨[vI 1, .bool true, .bool false, .bool false, .bool false, vQ [98, 99, 97, 115, 116]]⟩, .bool true]⟩), ([vI 9], .tuple ⟨[.agg ⟨[vI 0, .bool true, .bool false, .bool false, .bool false, vQ [114, 101, 100, 117, 99, 101]]⟩, .bool true]⟩), ([vI 10], .tuple ⟨[.agg ⟨[vI 1, .bool false, .bool false, .bool false, .bool false, vQ [112, 114, 105, 110, 116]]⟩, .bool true]⟩), ([vI 11], .tuple ⟨[.agg ⟨[vI 1, .bool false, .bool false, .bool false, .bool false, vQ [119, 111, 114, 107]]⟩, .bool true]⟩), ([vI 12], .tuple ⟨[.agg ⟨[vI 1, .bool false, .bool false, .bool true, .bool true, vQ [105, 102]]⟩, .bool true]⟩), ([vI 13], .tuple ⟨[.agg ⟨[vI 1, .bool false, .bool false, .bool true, .bool false, vQ [119, 104, 105, 108, 101]]⟩, .bool true]⟩), ([vI 20], .tuple ⟨[.agg ⟨[vI 0, .bool false, .bool false, .bool false, .bool false, vQ []]⟩, .bool true]⟩), ([vI 21], .tuple ⟨[.agg ⟨[vI 0, .bool true, .bool false, .bool false, .bool false, vQ []]⟩, .bool true]⟩), ([vI 22], .tuple ⟨[.agg ⟨[vI 0, .bool false, .bool false, .bool false, .bool false, vQ []]⟩, .bool true]⟩), ([vI 30], .tuple ⟨[.agg ⟨[vI 2, .bool false, .bool false, .bool false, .bool false, vQ []]⟩, .bool true]⟩), ([vI 31], .tuple ⟨[.agg ⟨[vI 2, .bool false, .bool false, .bool false, .bool false, vQ []]⟩, .bool true]⟩), ([vI 32], .tuple ⟨[.agg ⟨[vI 2, .bool false, .bool false, .bool false, .bool false, vQ []]⟩, .bool true]⟩), ([vI 33], .tuple ⟨[.agg ⟨[vI 2, .bool false, .bool false, .bool false, .bool false, vQ []]⟩, .bool true]⟩), ([vI 34], .tuple ⟨[.agg ⟨[vI 2, .bool false, .bool false, .bool false, .bool false, vQ []]⟩, .bool true]⟩), ([vI 35], .tuple ⟨[.agg ⟨[vI 2, .bool false, .bool false, .bool false, .bool false, vQ []]⟩, .bool true]⟩), ([vI 37], .tuple ⟨[.agg ⟨[vI 2, .bool false, .bool false, .bool false, .bool false, vQ []]⟩, .bool true]⟩)]
set_option maxRecDepth 100000 in
theorem tab41_is : (tab41.map fun p => Go.X.valOf (cBase (.enter 41 p.1) ah0)) = tab41.map fun p => some p.2 := by kernel_rfl
theorem tab41_plain : (tab41.all fun p => p.1.all pfv && pfv p.2) = true := by kernel_rfl
theorem tab41_good : VGood Tryz.prog 41 tab41 := vgood_of noCount mixed cBase_ok tab41_is tab41_plain
def tab68 : VTab := [([vQ [120]], .bool false), ([vQ [114]], .bool false), ([vQ [114, 97, 110, 107, 95]], .bool false)]
set_option maxRecDepth 100000 in
theorem tab68_is : (tab68.map fun p => Go.X.valOf (cBase (.enter 68 p.1) ah0)) = tab68.map fun p => some p.2 := by kernel_rfl
theorem tab68_plain : (tab68.all fun p => p.1.all pfv && pfv p.2) = true := by kernel_rfl
theorem tab68_good : VGood Tryz.prog 68 tab68 := vgood_of noCount mixed cBase_ok tab68_is tab68_plain
def tab43 : VTab := [([vQ [120]], .bool true), ([vQ []], .bool false), ([vQ [114]], .bool true), ([vQ [114, 97, 110, 107, 95]], .bool true)]
set_option maxRecDepth 100000 in
theorem tab43_is : (tab43.map fun p => Go.X.valOf (cBase (.enter 43 p.1) ah0)) = tab43.map fun p => some p.2 := by kernel_rfl
theorem tab43_plain : (tab43.all fun p => p.1.all pfv && pfv p.2) = true := by kernel_rfl
theorem tab43_good : VGood Tryz.prog 43 tab43 := vgood_of noCount mixed cBase_ok tab43_is tab43_plain
def tab79 : VTab := [([vQ [48], vI 10, vI 64], .tuple ⟨[vI 0, .nilIface]⟩), ([vQ [49], vI 10, vI 64], .tuple ⟨[vI 1, .nilIface]⟩), ([vQ [50], vI 10, vI 64], .tuple ⟨[vI 2, .nilIface]⟩), ([vQ [53], vI 10, vI 64], .tuple ⟨[vI 5, .nilIface]⟩), ([vQ [55], vI 10, vI 64], .tuple ⟨[vI 7, .nilIface]⟩), ([vQ [52, 50], vI 10, vI 64], .tuple ⟨[vI 42, .nilIface]⟩)]
set_option maxRecDepth 100000 in
theorem tab79_is : (tab79.map fun p => Go.X.valOf (cBase (.enter 79 p.1) ah0)) = tab79.map fun p => some p.2 := by kernel_rfl
theorem tab79_plain : (tab79.all fun p => p.1.all pfv && pfv p.2) = true := by kernel_rfl
theorem tab79_good : VGood Tryz.prog 79 tab79 := vgood_of noCount mixed cBase_ok tab79_is tab79_plain
def tab11 : VTab := [([vQ [115, 101, 110, 100, 32, 49, 44, 32, 50, 59]], .tuple ⟨[vN, vI 9, vI 7]⟩)]
set_option maxRecDepth 100000 in
theorem pan11 : panD Tryz.prog cBase 1000 2 11 ⟨9, 2, 0⟩ [⟨11, 1, 0⟩, ⟨10, 2, 0⟩, ⟨21, 5, 0⟩, ⟨3, 1, 1⟩, ⟨1, 1, 0⟩, ⟨0, 8, 0⟩] [vQ [115, 101, 110, 100, 32, 49, 44, 32, 50, 59]] [vN, vI 9, vI 7] = true := by kernel_rfl
theorem tab11_good : VGood Tryz.prog 11 tab11 := ⟨fun a v hm W => by cases List.mem_singleton.1 hm; exact panD_ok noCount mixed cBase_ok pan11 rfl rfl W, fun a v hm => by cases List.mem_singleton.1 hm; exact ⟨rfl, rfl⟩⟩
def ov (c : Call1) : Call1 := knownVals 11 tab11 (knownVals 79 tab79 (knownVals 43 tab43 (knownVals 68 tab68 (knownVals 41 tab41 (dropCall [11, 9, 12, 18, 34, 8, 64, 38, 17] (knownD Tryz.prog 1000 2 11 (knownOps (c))))))))
theorem ov_ok (w0 : World) (c : Call1) (hc : CallsOk w0 Tryz.prog c) : CallsOk w0 Tryz.prog (ov c) := knownVals_ok tab11_good (knownVals_ok tab79_good (knownVals_ok tab43_good (knownVals_ok tab68_good (knownVals_ok tab41_good (dropCall_ok (knownD_ok noCount mixed 1000 2 (knownOps_ok (hc))))))))
abbrev entered : List FuncId := [18, 35]
abbrev dropped : List FuncId := [11, 9, 12, 18, 34, 8, 64, 38, 17]
theorem entered_ok : ∀ g, entered.contains g = true → ∀ c args h, ov c (.enter g args) h = lowR (markOf dropped g h) (c (.enter g args) h) := by
 intro g hg c args h
 have hm : g ∈ entered := by simpa using hg
 simp only [entered, List.mem_cons, List.not_mem_nil, or_false] at hm
 rcases hm with rfl | rfl <;> cases args <;> rfl
end
end Go.Proofs.YtlgakeilplnfmaaGreatDoor
