/- A part of the row of TraceProfiles. -/
import Derived.Test.YtjhbbdfbngbjcaaGreatDoorYq
import Derived.Test.YtjhbbdfbngbjcaaGreatDoorYr
import Derived.Test.YtjhbbdfbngbjcaaGreatDoorRows
import Derived.Test.YtjhbbdfbngbjcaaGreatDoorCards
import Derived.Test.YtjhbbdfbngbjcaaGreatDoorTie
import Derived.Test.YtjhbbdfbngbjcaaGreatDoorChecked
import Derived.WalkKit
import Derived.ProofKit
import Derived.OpenShut
import Derived.Deep.Slices
import Derived.Carry
import Derived.LaidLaws
import Derived.LaidHandle
import Derived.Lay
import Derived.MakeChecks
import Derived.SevenTiedAt
namespace Go.Proofs.YtjhbbdfbngbjcaaGreatDoor
open Go Go.ChangeShapes Go.WideShapes Go.ChangeAt Go.RowKit
theorem own : ownKnob Tryz.prog.godebug = none := by kernel_rfl
theorem law_calls {P : Program} [Go.X.Kn P] (hN : Go.X.NoCount P) (hM : P.follows .mixedOrders = true) {f : FuncId} {args : List Value} {args' : Array Value} {W : World} {h : Go.X.AH} {φ : Go.X.Phi} (hR : Go.X.R W φ h W)
  (ha : Go.X.LR φ args args'.toList) (hs : Arm.Calls P f args h (fun r => r.1 = .bool true)) : Go.Calls P f args' W fun e w' => e = .returned (.bool true) ∧ RowKit.Below W.heap.size W w' := by
 obtain ⟨l, hl, hall⟩ := hs
 have hc := (Go.X.eRun_callsOk (P := P) hN hM W _ _ _ φ W (.enter f ⟨args'.toList⟩) hl hR (.enter ha)).1 _ _ rfl
 refine Go.Calls.mono hc fun e w' he => ?_
 obtain ⟨v', rfl, v, h', hm, φ', _, hr, hv⟩ := he
 have := hall _ hm
 dsimp only at this
 subst this
 cases hv
 exact ⟨rfl, hr.below⟩
theorem six {l : List Value} (h : l.length = 6) : ∃ a b c d e f, l = [a, b, c, d, e, f] := by
 match l, h with
 | [a, b, c, d, e, f], _ => exact ⟨a, b, c, d, e, f, rfl⟩
theorem four {l : List Value} (h : l.length = 4) : ∃ a b c d, l = [a, b, c, d] := by
 match l, h with
 | [a, b, c, d], _ => exact ⟨a, b, c, d, rfl⟩
theorem openEv {H : Type} {enc : TypeId × Value → H} {w : World} {base : Nat} {spare : Nat → Bool} {held : Bool} (fuel : Nat) (cs : List Value) (x : DataW H × List MemPlace) (h : DataW.trod enc Tryz.prog w base spare held fuel 83 cs = some x) : ∃ a : Arm.TE, True ∧ cs = Arm.ev6 a := by
 obtain ⟨xs, n, _, _, hl, hxs, hf⟩ := DataW.trod_struct Tryz.underlying83 h
 have hcell : Tryz.prog.cellsOf 83 = 6 := by kernel_rfl
 have hc3 : Tryz.prog.cellsOf 3 = 1 := by kernel_rfl
 have hc2 : Tryz.prog.cellsOf 2 = 1 := by kernel_rfl
 have hc4 : Tryz.prog.cellsOf 4 = 1 := by kernel_rfl
 rw [hcell] at hl
 obtain ⟨c0, c1, c2, c3, c4, c5, rfl⟩ := six hl
 have hx : ∀ i, i < 6 → ∃ y, xs[i]? = some y := fun i hi => ⟨_, List.getElem?_eq_getElem (by rw [hxs]; exact hi)⟩
 obtain ⟨y0, e0⟩ := hx 0 (by decide)
 obtain ⟨y1, e1⟩ := hx 1 (by decide)
 obtain ⟨y2, e2⟩ := hx 2 (by decide)
 obtain ⟨y3, e3⟩ := hx 3 (by decide)
 obtain ⟨y4, e4⟩ := hx 4 (by decide)
 obtain ⟨y5, e5⟩ := hx 5 (by decide)
 have f0 : DataW.trod enc Tryz.prog w base spare held n 3 (([c0, c1, c2, c3, c4, c5].drop 0).take (Tryz.prog.cellsOf 3)) = some y0 := (hf 0 _ rfl).trans e0
 have f1 : DataW.trod enc Tryz.prog w base spare held n 3 (([c0, c1, c2, c3, c4, c5].drop 1).take (Tryz.prog.cellsOf 3)) = some y1 := (hf 1 _ rfl).trans e1
 have f2 : DataW.trod enc Tryz.prog w base spare held n 3 (([c0, c1, c2, c3, c4, c5].drop 2).take (Tryz.prog.cellsOf 3)) = some y2 := (hf 2 _ rfl).trans e2
 have f3 : DataW.trod enc Tryz.prog w base spare held n 3 (([c0, c1, c2, c3, c4, c5].drop 3).take (Tryz.prog.cellsOf 3)) = some y3 := (hf 3 _ rfl).trans e3
 have f4 : DataW.trod enc Tryz.prog w base spare held n 2 (([c0, c1, c2, c3, c4, c5].drop 4).take (Tryz.prog.cellsOf 2)) = some y4 := (hf 4 _ rfl).trans e4
 have f5 : DataW.trod enc Tryz.prog w base spare held n 4 (([c0, c1, c2, c3, c4, c5].drop 5).take (Tryz.prog.cellsOf 4)) = some y5 := (hf 5 _ rfl).trans e5
 rw [hc3] at f0 f1 f2 f3
 rw [hc2] at f4
 rw [hc4] at f5
 obtain ⟨n0, h0, _, _⟩ := DataW.trod_int Tryz.underlying3 f0
 obtain ⟨n1, h1, _, _⟩ := DataW.trod_int Tryz.underlying3 f1
 obtain ⟨n2, h2, _, _⟩ := DataW.trod_int Tryz.underlying3 f2
 obtain ⟨n3, h3, _, _⟩ := DataW.trod_int Tryz.underlying3 f3
 obtain ⟨n4, h4, _, _⟩ := DataW.trod_int Tryz.underlying2 f4
 obtain ⟨n5, h5, _⟩ := DataW.trod_bool Tryz.underlying4 f5
 simp at h0 h1 h2 h3 h4 h5
 subst h0 h1 h2 h3 h4 h5
 exact ⟨⟨n0, n1, n2, n3, n4, n5⟩, trivial, rfl⟩
theorem openCost {H : Type} {enc : TypeId × Value → H} {w : World} {base : Nat} {spare : Nat → Bool} {held : Bool} (fuel : Nat) (cs : List Value) (x : DataW H × List MemPlace) (h : DataW.trod enc Tryz.prog w base spare held fuel 24 cs = some x) : ∃ C : Arm.TC, cs = [Arm.nv C.s, Arm.nv C.c, Arm.nv C.r, Arm.nv C.m] := by
 obtain ⟨xs, n, _, _, hl, hxs, hf⟩ := DataW.trod_struct Tryz.underlying24 h
 have hcell : Tryz.prog.cellsOf 24 = 4 := by kernel_rfl
 have hc3 : Tryz.prog.cellsOf 3 = 1 := by kernel_rfl
 rw [hcell] at hl
 obtain ⟨c0, c1, c2, c3, rfl⟩ := four hl
 have hx : ∀ i, i < 4 → ∃ y, xs[i]? = some y := fun i hi => ⟨_, List.getElem?_eq_getElem (by rw [hxs]; exact hi)⟩
 obtain ⟨y0, e0⟩ := hx 0 (by decide)
 obtain ⟨y1, e1⟩ := hx 1 (by decide)
 obtain ⟨y2, e2⟩ := hx 2 (by decide)
 obtain ⟨y3, e3⟩ := hx 3 (by decide)
 have f0 : DataW.trod enc Tryz.prog w base spare held n 3 (([c0, c1, c2, c3].drop 0).take (Tryz.prog.cellsOf 3)) = some y0 := (hf 0 _ rfl).trans e0
 have f1 : DataW.trod enc Tryz.prog w base spare held n 3 (([c0, c1, c2, c3].drop 1).take (Tryz.prog.cellsOf 3)) = some y1 := (hf 1 _ rfl).trans e1
 have f2 : DataW.trod enc Tryz.prog w base spare held n 3 (([c0, c1, c2, c3].drop 2).take (Tryz.prog.cellsOf 3)) = some y2 := (hf 2 _ rfl).trans e2
 have f3 : DataW.trod enc Tryz.prog w base spare held n 3 (([c0, c1, c2, c3].drop 3).take (Tryz.prog.cellsOf 3)) = some y3 := (hf 3 _ rfl).trans e3
 rw [hc3] at f0 f1 f2 f3
 obtain ⟨n0, h0, _, _⟩ := DataW.trod_int Tryz.underlying3 f0
 obtain ⟨n1, h1, _, _⟩ := DataW.trod_int Tryz.underlying3 f1
 obtain ⟨n2, h2, _, _⟩ := DataW.trod_int Tryz.underlying3 f2
 obtain ⟨n3, h3, _, _⟩ := DataW.trod_int Tryz.underlying3 f3
 simp at h0 h1 h2 h3
 subst h0 h1 h2 h3
 exact ⟨⟨n0, n1, n2, n3⟩, rfl⟩
set_option maxRecDepth 100000 in
theorem lifted (os : Os) (started : os.Started) (H : Type) (enc : TypeId × Value → H) :
   ReturnsInHanded {} Tryz.checked os 3 .any (fun w args => (Rows.traceProfilesSpec.pre enc Tryz.prog Tryz.f3 Rows.traceProfilesRow.domain false w args ∧ laidMetH Tryz.prog Rows.traceProfilesRow.laid w) ∧ sizedMet enc Tryz.prog Tryz.f3 (OpenSpec.ofChange Rows.traceProfilesSpec) false w args)
     (Rows.traceProfilesSpec.post enc Tryz.prog Tryz.f3 false true false false) := by
 refine returnsInHanded_of_change_and (C := Tryz.checked) (X := fun w _ => laidMetH Tryz.prog Rows.traceProfilesRow.laid w) (fun _ _ _ hh h => h.of_heap hh) own started (by kernel_rfl) Tryz.func3
   (ChangeSpec.witness_shaped (enc := enc) (C := Tryz.checked) (os := os) (X := fun w _ => laidMetH Tryz.prog Rows.traceProfilesRow.laid w) false (World.laidAll Tryz.prog os Rows.traceProfilesRow.laid) #[.slice none 0 0, .agg #[.int .i64 0, .int .i64 0, .int .i64 0, .int .i64 0]] 8 (World.laidAll_os _ _ _)
     (World.shaped_of_ZipB (by kernel_rfl) (by kernel_rfl)) (by kernel_rfl) (by kernel_rfl) (by kernel_rfl)
     (by rw [MakeChecks.laidMetH_plain _ _ _ (by kernel_rfl)]; exact laidMet_laidAll _ (by kernel_rfl) (by kernel_rfl))) ?_
 intro W base args ds gs before hval0 hW hcnd _ hL _
 have hval : ∀ (j : Nat) t v, Tryz.f3.params[j]? = some t → args[j]? = some v → Value.okWide Tryz.prog W .any base t v := hval0
 have hW' := hW
 obtain ⟨p, q, hA0, hV, rfl, hfz, hnd⟩ := hW
 have hA : DataW.TrodAll enc Tryz.prog W 0 (fun _ => true) true Tryz.f3.params.toList args.toList ds p := hA0
 rw [Tryz.params3] at hA hval
 obtain ⟨v0, vs0, d0, ds0, p0, q0, hargs0, rfl, rfl, h0, r0⟩ := trodAll_cons hA
 obtain ⟨v1, vs1, d1, ds1, p1, q1, hargs1, rfl, rfl, h1, r1⟩ := trodAll_cons r0
 obtain ⟨hargs3, rfl, rfl⟩ := trodAll_nil r1
 obtain rfl : args = #[v0, v1] := by cases args; simp_all
 clear hargs0 hargs1 hargs3
 obtain ⟨rfl, rfl⟩ := trodVars_none hV
 obtain ⟨b0, len0, cap0, rfl⟩ := okWide_slice Tryz.underlying22 (hval 0 22 v0 rfl rfl)
 obtain ⟨cs, rfl, hcs⟩ := okWide_struct Tryz.underlying24 (hval 1 24 v1 rfl rfl)
 clear hA0 hval0
 obtain ⟨f1, h1c⟩ := id h1
 obtain ⟨C, hC⟩ := openCost f1 _ _ h1c
 obtain ⟨cl⟩ := cs
 have hC : cl = [Arm.nv C.s, Arm.nv C.c, Arm.nv C.r, Arm.nv C.m] := hC
 subst hC
 obtain ⟨V, K0, hrows⟩ := Go.X.heldC_of Tryz.underlying22 Tryz.underlying27 (by kernel_rfl) h0 (fun b off hm => hfz b off (by simp [hm]))
 have key : ∀ i, i < len0 → ∃ l : List Arm.TE, Go.X.HeldK 6 W (V i) l.length (l.flatMap Arm.ev6) := fun i hi => by
   obtain ⟨b, l, c, d', ps', e, ht, hz⟩ := hrows i hi
   rw [e]
   obtain ⟨L, _, K⟩ := Go.X.heldK_of (k := 6) (f := Arm.ev6) (ok := fun _ => True) (by decide) (fun a => rfl) (fun a x hx φ => by
     unfold Arm.ev6 at hx
     simp only [List.mem_cons, List.not_mem_nil, or_false] at hx
     rcases hx with rfl | rfl | rfl | rfl | rfl | rfl
     · exact .int _ _
     · exact .int _ _
     · exact .int _ _
     · exact .int _ _
     · exact .int _ _
     · exact .bool _) Tryz.underlying27 (by kernel_rfl) openEv ht hz
   exact ⟨L, K⟩
 obtain ⟨L, hLd⟩ : ∃ L : Arm.Lf, ∀ i, (i < len0 → Go.X.HeldK 6 W (V i) (L i).length ((L i).flatMap Arm.ev6)) ∧ (len0 ≤ i → L i = []) := by
   refine ⟨fun i => if h : i < len0 then Classical.choose (key i h) else [], fun i => ⟨fun hi => ?_, fun hi => ?_⟩⟩
   · dsimp only; rw [dif_pos hi]; exact Classical.choose_spec (key i hi)
   · dsimp only; rw [dif_neg (by omega)]
 obtain ⟨V', φ1, w1, R1, F1, L1, A1, S1⟩ := Arm.holdRows (C := fun i => (L i).flatMap Arm.ev6) (L := fun i => (L i).length) (by decide) len0 (Go.X.R.first W) Arm.first0 (fun i hi => (hLd i).1 hi)
 obtain ⟨u0, φ2, w2, R2, F2, L2, A2, G2, S2, _⟩ := Arm.holdR (l := (List.range len0).map V') R1 F1 (by decide) K0 (by simp) (fun i x y hx hy => by
   by_cases hi : i < len0
   · rw [List.getElem?_map, List.getElem?_range hi] at hx hy
     cases hx; cases hy
     exact (A1 i hi).1
   · rw [List.getElem?_eq_none (by simp; omega)] at hx; cases hx)
 have I : Arm.TIn w2 (fun b => b < w2.next) (VT0 u0 V') len0 L := ⟨G2, fun p hp => (A1 p hp).2.1.ext S2, fun b hb => G2.lt hb, fun p b hp hb => ((A1 p hp).2.1.ext S2).lt hb⟩
 have hr := law_ok (C := C) I (fun p hp => (hLd p).2 hp) (fun q hq => (A1 q hq).2.2)
 have hw := law_calls (P := Tryz.prog) noCount mixed R2 (args' := #[.slice b0 len0 cap0, .agg ⟨[Arm.nv C.s, Arm.nv C.c, Arm.nv C.r, Arm.nv C.m]⟩]) (.cons A2 (.cons (Go.X.pfv_refl φ2 (by rfl)) .nil)) hr
 refine Calls.mono hw fun e W' he => ?_
 obtain ⟨rfl, bel⟩ := he
 refine ⟨_, rfl, _, _, _, [], p0 ++ (p1 ++ []), [], hW', ?_, ?_, rfl, bel.frame _, fun h => by cases h⟩
 · exact trodAll_cons_mk (shut_bool Tryz.underlying4 _) trodAll_mk0
 · exact trodAll_cons_mk (bel.trod (by kernel_rfl) (by kernel_rfl) (by decide +kernel) h0 (fun x hx => hW'.lt x (by simp [hx]))) (trodAll_cons_mk (bel.trod (by kernel_rfl) (by kernel_rfl) (by decide +kernel) h1 (fun x hx => hW'.lt x (by simp [hx]))) (trodAll_mk0))
end Go.Proofs.YtjhbbdfbngbjcaaGreatDoor
