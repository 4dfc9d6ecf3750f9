/- Proved here: TopSumsSaid, the given row of TopSums, for every input and with no condition of its own. -/
import Derived.Test.YtjealfplbigphaaGreatZt
import Derived.Test.YtjealfplbigphaaGreatRows
import Derived.Test.YtjealfplbigphaaGreatChecked
import Derived.WalkKit
import Derived.ProofKit
import Derived.OpenShut
import Derived.Deep.Slices
import Derived.Carry
namespace Go.Proofs.YtjealfplbigphaaGreat
open Go Go.ChangeShapes Go.WideShapes Go.ChangeAt Go.RowKit
theorem own : ownKnob Tryz.prog.godebug = none := by kernel_rfl
theorem jx2 {P : Program} [Go.X.Kn P] (hN : Go.X.NoCount P) (hM : P.follows .mixedOrders = true) {f : FuncId} {args : List Value} {args' : Array Value} {W : World} {h : Go.X.AH} {φ : Go.X.Phi} (hR : Go.X.R W φ h W)
  (ha : Go.X.LR φ args args'.toList) (hs : Arm.Calls P f args h (fun r => r.1 = .bool true)) : Go.Calls P f args' W fun e w' => e = .returned (.bool true) /\ RowKit.Below W.heap.size W w' := by
 obtain ⟨l, hl, hall⟩ := hs
 have hc := (Go.X.eRun_callsOk (P := P) hN hM W _ _ _ φ W (.enter f ⟨args'.toList⟩) hl hR (.enter ha)).1 _ _ rfl
 refine Go.Calls.mono hc fun e w' he => ?_
 obtain ⟨v', rfl, v, h', hm, φ', _, hr, hv⟩ := he
 have := hall _ hm
 dsimp only at this
 subst this
 cases hv
 exact ⟨rfl, hr.below⟩
theorem wf8 {n : Int} (h3 : (Lit.int .u8 n).wf = true) : 0 ≤ n /\ n < 256 := by
 simp [Lit.wf] at h3
 have e1 : IntKind.u8.min = 0 := by decide
 have e2 : IntKind.u8.max = 255 := by decide
 rw [e1, e2] at h3
 omega
theorem u8in {P : Program} {t : TypeId} (ht : P.underlying t = some (.int .u8)) {H : Type} {enc : TypeId × Value -> H} {w : World} {base : Nat} {spare : Nat -> Bool} {held : Bool} {n : Int} {d : DataW H} {ps : List MemPlace}
  (h : DataW.Trod enc P w base spare held t (.int .u8 n) d ps) : 0 ≤ n /\ n < 256 := by
 obtain ⟨fuel, h⟩ := h
 obtain ⟨n', h1, _, h2⟩ := DataW.trod_int ht h
 have : [Value.int .u8 n] = [Value.int .u8 n'] := h1
 cases this
 exact wf8 h2
theorem one {l : List Value} (h : l.length = 1) : ∃ a, l = [a] := by
 match l, h with
 | [a], _ => exact ⟨a, rfl⟩
theorem openByte {H : Type} {enc : TypeId × Value -> H} {w : World} {base : Nat} {spare : Nat -> Bool} {held : Bool} (fuel : Nat) (cs : List Value) (x : DataW H × List MemPlace) (h : DataW.trod enc Tryz.prog w base spare held fuel 5 cs = some x) : ∃ a : UInt8, True /\ cs = [Arm.bv a] := by
 obtain ⟨n, e, _, hw⟩ := DataW.trod_int Tryz.underlying5 h
 have := wf8 hw
 refine ⟨UInt8.ofNat n.toNat, trivial, e.trans ?_⟩
 unfold Arm.bv
 have : ((UInt8.ofNat n.toNat).toNat : Int) = n := by
  rw [UInt8.toNat_ofNat']
  omega
 rw [this]
theorem flat1 (L : Go.Mt.By) : L.flatMap (fun a => [Arm.bv a]) = L.map Arm.bv := by
 induction L with
 | nil => rfl
 | cons x l ih => rw [List.flatMap_cons, List.map_cons, ih]; rfl
theorem yw6 {W : World} {H : Type} {enc : TypeId × Value -> H} {held : Bool} {b0 : Option Addr} {len0 cap0 : Nat} {d : DataW H} {ps : List MemPlace}
  (h : DataW.Trod enc Tryz.prog W 0 (fun _ => true) held 23 (.slice b0 len0 cap0) d ps) (hz : W.noneFrozen ps) : ∃ l : Go.Mt.By, Go.X.HeldK 1 W (.slice b0 len0 cap0) l.length (l.map Arm.bv) := by
 obtain ⟨L, _, K⟩ := Go.X.heldK_of (k := 1) (f := fun a => [Arm.bv a]) (ok := fun _ => True) (by decide) (fun a => rfl) (fun a x hx φ => by
   rw [List.mem_singleton.1 hx]; exact .int _ _) Tryz.underlying23 (by kernel_rfl) openByte h hz
 refine ⟨L, ?_⟩
 rw [<- flat1]
 exact K
theorem wf64 {n : Int} (h3 : (Lit.int .u64 n).wf = true) : 0 ≤ n /\ n < 18446744073709551616 := by
 simp [Lit.wf] at h3
 have e1 : IntKind.u64.min = 0 := by decide
 have e2 : IntKind.u64.max = 18446744073709551615 := by decide
 rw [e1, e2] at h3
 omega
theorem openWord {H : Type} {enc : TypeId × Value -> H} {w : World} {base : Nat} {spare : Nat -> Bool} {held : Bool} (fuel : Nat) (cs : List Value) (x : DataW H × List MemPlace) (h : DataW.trod enc Tryz.prog w base spare held fuel 24 cs = some x) : ∃ a : Nat, a < Go.Nu.BB /\ cs = [Arm.uv a] := by
 obtain ⟨n, e, _, hw⟩ := DataW.trod_int Tryz.underlying24 h
 have := wf64 hw
 refine ⟨n.toNat, ?_, e.trans ?_⟩
 . show n.toNat < 18446744073709551616
   omega
 . show [Value.int .u64 n] = [Value.int .u64 (n.toNat : Int)]
   rw [Int.toNat_of_nonneg this.1]
theorem flat2 (L : List Nat) : L.flatMap (fun a => [Arm.uv a]) = L.map Arm.uv := by
 induction L with
 | nil => rfl
 | cons x l ih => rw [List.flatMap_cons, List.map_cons, ih]; rfl
theorem jv2 {W : World} {H : Type} {enc : TypeId × Value -> H} {held : Bool} {b0 : Option Addr} {len0 cap0 : Nat} {d : DataW H} {ps : List MemPlace}
  (h : DataW.Trod enc Tryz.prog W 0 (fun _ => true) held 22 (.slice b0 len0 cap0) d ps) (hz : W.noneFrozen ps) : ∃ l : List Nat, (∀ x, x ∈ l -> x < Go.Nu.BB) /\ Go.X.HeldK 1 W (.slice b0 len0 cap0) l.length (l.map Arm.uv) := by
 obtain ⟨L, hL, K⟩ := Go.X.heldK_of (k := 1) (f := fun a => [Arm.uv a]) (ok := fun a => a < Go.Nu.BB) (by decide) (fun a => rfl) (fun a x hx φ => by
   rw [List.mem_singleton.1 hx]; exact .int _ _) Tryz.underlying22 (by kernel_rfl) openWord h hz
 refine ⟨L, hL, ?_⟩
 rw [<- flat2]
 exact K
theorem Qx5 {l : List Nat} (hl : ∀ x, x ∈ l -> x < Go.Nu.BB) (i : Nat) : l.getD i 0 < Go.Nu.BB := by
 rw [List.getD_eq_getElem?_getD]
 cases h : l[i]? with
 | none => exact Nat.zero_lt_succ _
 | some x => exact hl x (List.mem_of_getElem? h)
set_option maxRecDepth 100000 in
theorem lifted3 (os : Os) (started : os.Started) (H : Type) (enc : TypeId × Value -> H) :
   ReturnsInHanded {} Tryz.checked os 3 .any (Rows.topSumsSpec.pre6 enc Tryz.prog Tryz.f3 Rows.topSumsRow.domain false) (Rows.topSumsSpec.post enc Tryz.prog Tryz.f3 false true false false) := by
 refine returnsInHanded_of_change (C := Tryz.checked) own started (by kernel_rfl) Tryz.func3
   (ChangeSpec.witness6 (enc := enc) (C := Tryz.checked) false ⟨#[], #[.slice none 0 0, .slice none 0 0, .slice none 0 0, .int .u8 0], []⟩ 3 (by kernel_rfl) (by kernel_rfl) (by kernel_rfl) (by kernel_rfl)) ?_
 intro W base args ds gs before hval0 hW hcnd _
 have hval : ∀ (j : Nat) t v, Tryz.f3.params[j]? = some t -> args[j]? = some v -> Value.okWide Tryz.prog W .any base t v := hval0
 have hW' := hW
 obtain ⟨p, q, hA0, hV, rfl, hfz, hnd⟩ := hW
 have hA : DataW.TrodAll enc Tryz.prog W 0 (fun _ => true) true Tryz.f3.params.toList args.toList ds p := hA0
 rw [Tryz.params3] at hA hval
 obtain ⟨v0, vs0, d0, ds0, p0, q0, hargs0, rfl, rfl, h0, r0⟩ := trodAll_cons hA
 obtain ⟨v1, vs1, d1, ds1, p1, q1, hargs1, rfl, rfl, h1, r1⟩ := trodAll_cons r0
 obtain ⟨v2, vs2, d2, ds2, p2, q2, hargs2, rfl, rfl, h2, r2⟩ := trodAll_cons r1
 obtain ⟨v3, vs3, d3, ds3, p3, q3, hargs3, rfl, rfl, h3, r3⟩ := trodAll_cons r2
 obtain ⟨hargs4, rfl, rfl⟩ := trodAll_nil r3
 obtain rfl : args = #[v0, v1, v2, v3] := by cases args; simp_all
 clear hargs0 hargs1 hargs2 hargs3 hargs4
 obtain ⟨rfl, rfl⟩ := trodVars_none hV
 obtain ⟨b0, len0, cap0, rfl⟩ := okWide_slice Tryz.underlying22 (hval 0 22 v0 rfl rfl)
 obtain ⟨b1, len1, cap1, rfl⟩ := okWide_slice Tryz.underlying23 (hval 1 23 v1 rfl rfl)
 obtain ⟨b2, len2, cap2, rfl⟩ := okWide_slice Tryz.underlying23 (hval 2 23 v2 rfl rfl)
 obtain ⟨n3, rfl⟩ := okWide_int Tryz.underlying5 (hval 3 5 v3 rfl rfl)
 clear hA0 hval0
 have k3 := u8in Tryz.underlying5 h3
 obtain ⟨x3, rfl⟩ : ∃ x : Nat, n3 = x := ⟨n3.toNat, by omega⟩
 obtain ⟨l, hl, K0⟩ := jv2 h0 (fun b off hm => hfz b off (by simp [hm]))
 obtain ⟨o1, K1⟩ := yw6 h1 (fun b off hm => hfz b off (by simp [hm]))
 obtain ⟨o2, K2⟩ := yw6 h2 (fun b off hm => hfz b off (by simp [hm]))
 obtain ⟨u0, φ0, m0, R0, F0, L0, A0, G0, S0⟩ := Arm.holdK (Go.X.R.first W) Arm.first0 (by decide) K0
 obtain ⟨u1, φ1, m1, R1, F1, L1, A1, G1, S1⟩ := Arm.holdK R0 F0 (by decide) K1
 obtain ⟨u2, φ2, m2, R2, F2, L2, A2, G2, S2⟩ := Arm.holdK R1 F1 (by decide) K2
 have hr := top_ok ((G0.ext S1).ext S2) (G1.ext S2).rb G2.rb (Qx5 hl) (E := x3) (by omega)
 have hw := jx2 (P := Tryz.prog) noCount mixed R2 (args' := #[.slice b0 len0 cap0, .slice b1 len1 cap1, .slice b2 len2 cap2, .int .u8 x3]) (.cons ((A0.mono L1).mono L2) (.cons (A1.mono L2) (.cons A2 (.cons (.int _ _) .nil)))) hr
 refine Calls.mono hw fun e W' he => ?_
 obtain ⟨rfl, bel⟩ := he
 refine ⟨_, rfl, _, _, _, [], p0 ++ (p1 ++ (p2 ++ (p3 ++ []))), [], hW', ?_, ?_, rfl, bel.frame _, fun h => by cases h⟩
 . exact trodAll_cons_mk (shut_bool Tryz.underlying4 _) trodAll_mk0
 . exact trodAll_cons_mk (bel.trod (by kernel_rfl) (by kernel_rfl) (by decide +kernel) h0 (fun x hx => hW'.lt x (by simp [hx]))) (trodAll_cons_mk (bel.trod (by kernel_rfl) (by kernel_rfl) (by decide +kernel) h1 (fun x hx => hW'.lt x (by simp [hx]))) (trodAll_cons_mk (bel.trod (by kernel_rfl) (by kernel_rfl) (by decide +kernel) h2 (fun x hx => hW'.lt x (by simp [hx])))
    (trodAll_cons_mk (bel.trod (by kernel_rfl) (by kernel_rfl) (by decide +kernel) h3 (fun x hx => hW'.lt x (by simp [hx]))) (trodAll_mk0))))
theorem topSums : Rows.TopSumsSaid :=
 OpenClaim.holds_of_wide 3 Tryz.f3 rfl rfl rfl rfl rfl rfl rfl ⟨rfl, rfl, rfl, rfl, rfl⟩ rfl rfl rfl rfl rfl (by kernel_rfl) Tryz.func3 (by kernel_rfl)
  (of_decide_eq_true (by kernel_rfl)) (by unfold Func.isWrapper; first | (rw [if_pos (by decide +kernel)]; kernel_rfl) | (rw [if_neg (by decide +kernel)]; exact ⟨rfl, rfl⟩))
  (fun os started H enc _ => lifted3 os started H enc)
end Go.Proofs.YtjealfplbigphaaGreat
