/- Worlds of the program and walks of its functions. -/
import Derived.Test.YtmehemeoaplepaaZj
import Derived.Test.YtmehemeoaplepaaZr
import Derived.Test.YtmehemeoaplepaaRows
import Derived.Test.YtmehemeoaplepaaChecked
import Derived.WalkKit
import Derived.ProofKit
import Derived.OpenShut
import Derived.Deep.Slices
import Derived.Carry
namespace Go.X
noncomputable section
open Go Go.RowKit
structure HeldC (k : Nat) (w : World) (v : Value) (n : Nat) (cs : List Value) : Prop where
 len : cs.length = n * k
 has : (v = .slice none 0 0 ∧ n = 0) ∨ ∃ a cap, v = .slice (some a) n cap ∧ n ≤ cap ∧ cap ≤ maxLen ∧ (0 < cap → a.spot = none ∧ a.block < w.heap.size) ∧
  ∀ i, i < cs.length → w.cell? ⟨a.block, a.off + i, none⟩ = cs[i]? ∧ w.frozen? ⟨a.block, a.off + i, none⟩ = false
theorem heldC_of {P : Program} {t e e2 : TypeId} (ht : P.underlying t = some (.slice e)) (he : P.underlying e = some (.slice e2)) (hc : P.cellsOf e = 1) {H : Type} {enc : TypeId × Value → H} {w : World} {held : Bool}
   {b0 : Option Addr} {len0 cap0 : Nat} {d : DataW H} {ps : List MemPlace}
   (h : DataW.Trod enc P w 0 (fun _ => true) held t (.slice b0 len0 cap0) d ps) (hz : w.noneFrozen ps) :
   ∃ V : Nat → Value, HeldC 1 w (.slice b0 len0 cap0) len0 ((List.range len0).map V) ∧ ∀ i, i < len0 → ∃ b l c d' ps', V i = .slice b l c ∧ DataW.Trod enc P w 0 (fun _ => true) held e (.slice b l c) d' ps' ∧ w.noneFrozen ps' := by
 obtain ⟨fuel, h⟩ := h
 rcases Deep.open_slice1 ht hc h with ⟨e1, _⟩ | ⟨a, len, cap, m, n, V, D, Pl, e1, _, hlc, hcm, hm, hx, hall⟩
 · have e1 : [Value.slice b0 len0 cap0] = [.slice none 0 0] := e1
   cases e1
   exact ⟨fun _ => .nilIface, ⟨by simp, .inl ⟨rfl, rfl⟩⟩, fun i hi => by omega⟩
 · have e1 : [Value.slice b0 len0 cap0] = [.slice (some a) len cap] := e1
   cases e1
   have hm : m = cap0 := by simpa using hm
   obtain ⟨b, off, spot⟩ := a
   have hspot : 0 < cap0 → spot = none ∧ b < w.heap.size := by
     intro h0
     have h4 := (hall 0 (by omega)).1
     have hs : spot = none := by simpa [Addr.add] using World.cell?_spot h4
     refine ⟨hs, ?_⟩
     unfold World.cell? at h4
     split at h4
     · rename_i e5; have := (Array.getElem?_eq_some_iff.1 e5).1; simpa [Addr.add] using this
     · cases h4
   have hx2 : ps = MemPlace.row ⟨b, off, spot⟩ m ++ (List.range m).flatMap Pl := (Prod.mk.inj hx).2
   refine ⟨V, ⟨by simp, .inr ⟨⟨b, off, spot⟩, cap0, rfl, hlc, hcm, hspot, fun i hi => ?_⟩⟩, fun i hi => ?_⟩
   · simp only [List.length_map, List.length_range] at hi
     obtain ⟨hs, _⟩ := hspot (by omega)
     subst hs
     have h4 := (hall i (by omega)).1
     rw [WideShapes.add_plain] at h4
     refine ⟨by rw [h4]; simp [hi], ?_⟩
     refine hz b (off + i) ?_
     rw [hx2]
     refine List.mem_append_left _ ?_
     unfold MemPlace.row
     simp only [List.mem_map, List.mem_range]
     exact ⟨i, by omega, by simp⟩
   · have h5 := (hall i (by omega)).2
     obtain ⟨b5, l5, c5, e5⟩ : ∃ b l c, V i = .slice b l c := by
       rcases Deep.open_slice he h5 with ⟨e6, _⟩ | ⟨a6, l6, c6, _, _, _, _, e6, _⟩
       · exact ⟨_, _, _, List.singleton_inj.1 e6⟩
       · exact ⟨_, _, _, List.singleton_inj.1 e6⟩
     rw [e5] at h5
     refine ⟨b5, l5, c5, D i, Pl i, e5, ⟨n, h5⟩, fun b' off' hm' => hz b' off' ?_⟩
     rw [hx2]
     refine List.mem_append_right _ (List.mem_flatMap.2 ⟨i, List.mem_range.2 (by omega), hm'⟩)
end
end Go.X
namespace Go.Arm
noncomputable section
open Go Go.X Go.RowKit
theorem holdR {W : World} {φ : Phi} {h : AH} (r : R W φ h W) (hf : First h) {k n : Nat} {v : Value} {l lc : List Value} (hk0 : 0 < k) (H : HeldC k W v n lc) (hll : l.length = lc.length) (hlv : ∀ (i : Nat) (x y : Value), l[i]? = some x → lc[i]? = some y → VR φ x y) :
   ∃ v' φ' h', R W φ' h' W ∧ First h' ∧ Le φ φ' ∧ VR φ' v' v ∧ Sd h' k v' n l ∧ Sm Nix h h' ∧ ∃ a c, v' = .slice a n c ∧ n ≤ c ∧ c < open_ := by
 have bump : R W φ ⟨h.m, h.next + 1⟩ W := ⟨r.dom, r.low, r.inj, fun b i hi => ⟨(r.lt b i hi).1, Nat.lt_succ_of_lt (r.lt b i hi).2⟩, trivial, r.below⟩
 have smb : Sm Nix h ⟨h.m, h.next + 1⟩ := ⟨Nat.le_succ _, fun _ _ _ => rfl⟩
 rcases H.has with ⟨rfl, rfl⟩ | ⟨a, cap, rfl, hlc, hcm, hpos, hall⟩
 · have hl0 : l = [] := List.length_eq_zero_iff.1 (by rw [hll, H.len]; simp)
   subst hl0
   exact ⟨.slice none 0 0, φ, _, bump, hf, Le.refl φ, .nils 0 0, Sd.nil, smb, none, 0, rfl, Nat.le_refl _, by decide⟩
 · by_cases h0 : cap = 0
   · subst h0
     have hn0 : n = 0 := by omega
     subst hn0
     have hl0 : l = [] := List.length_eq_zero_iff.1 (by rw [hll, H.len]; simp)
     subst hl0
     exact ⟨.slice (some ⟨h.next, 0, none⟩) 0 0, φ, _, bump, hf, Le.refl φ, .slice0 _ _ _, ⟨(by simp), .inl ⟨rfl, _, _, rfl, (fun e => by cases e), fun q hq => by cases hq; exact Nat.lt_succ_self _⟩⟩, smb, _, 0, rfl, Nat.le_refl _, by decide⟩
   · obtain ⟨hs, hb⟩ := hpos (by omega)
     obtain ⟨bk, off, spot⟩ := a
     dsimp only at hs hb hall
     subst hs
     have hmax : maxLen < open_ := by decide
     have hopen : cap ≠ open_ := by omega
     by_cases hn0 : n = 0
     · subst hn0
       have hl0 : l = [] := List.length_eq_zero_iff.1 (by rw [hll, H.len]; simp)
       subst hl0
       have le : Le φ (fun b => if b = h.next then some (⟨bk, off, 0, 0, 0⟩ : Im) else φ b) := by
         intro b j hj
         have := (r.lt b j hj).2
         show (if b = h.next then _ else φ b) = some j
         rw [if_neg (by omega)]; exact hj
       have hget : ∀ b o, h.m.get b = some o → ∀ i, (if b = h.next then some (⟨bk, off, 0, 0, 0⟩ : Im) else φ b) = some i → h.m.get b = none ∨ φ b = some i ∨ b = h.next := by
         intro b o _ i hi
         by_cases e : b = h.next
         · exact .inr (.inr e)
         · rw [if_neg e] at hi; exact .inr (.inl hi)
       have hnone : h.m.get h.next = none ∨ ∃ o, h.m.get h.next = some o := by
         cases h.m.get h.next with
         | none => exact .inl rfl
         | some o => exact .inr ⟨o, rfl⟩
       have getm : ∀ b, (h.m.set h.next none).get b = if b = h.next then none else h.m.get b := fun b => T.get_set b
       refine ⟨.slice (some ⟨h.next, 0, none⟩) 0 cap, _, ⟨h.m.set h.next none, h.next + 1⟩, ⟨fun b i o hi ho => ?_, fun b i o hi ho hr => ?_, fun b b' i i' o o' hi hi' ho ho' hr hc => ?_, fun b i hi => ?_, trivial, r.below⟩, fun b o ho => ?_, le, ?_, ⟨(by simp), .inl ⟨rfl, _, _, rfl, (fun e => by cases e), fun q hq => by cases hq; exact Nat.lt_succ_self _⟩⟩, ⟨Nat.le_succ _, fun b hb _ => by show (h.m.set h.next none).get b = _; rw [getm, if_neg (by omega)]⟩, _, cap, rfl, by omega, by omega⟩
       · rw [getm] at ho
         by_cases e : b = h.next
         · rw [if_pos e] at ho; cases ho
         · rw [if_neg e] at ho hi; exact (r.dom b i o hi ho).mono le
       · rw [getm] at ho
         by_cases e : b = h.next
         · rw [if_pos e] at ho; cases ho
         · rw [if_neg e] at ho hi; exact r.low b i o hi ho hr
       · rw [getm] at ho
         by_cases e : b = h.next
         · rw [if_pos e] at ho; cases ho
         · rw [if_neg e] at ho; have := hf b o ho; rw [hr] at this; cases this
       · by_cases e : b = h.next
         · rw [if_pos e] at hi; cases hi; exact ⟨hb, by subst e; exact Nat.lt_succ_self _⟩
         · rw [if_neg e] at hi; exact ⟨(r.lt b i hi).1, Nat.lt_succ_of_lt (r.lt b i hi).2⟩
       · rw [getm] at ho
         by_cases e : b = h.next
         · rw [if_pos e] at ho; cases ho
         · rw [if_neg e] at ho; exact hf b o ho
       · have := VR.slice (φ := fun b => if b = h.next then some (⟨bk, off, 0, 0, 0⟩ : Im) else φ b) (a := ⟨h.next, 0, none⟩) (l := 0) (c := cap) ⟨bk, off, 0, 0, 0⟩ (if_pos rfl) rfl hopen
         simpa using this
     · have hl1 : 0 < l.length := by rw [hll, H.len]; exact Nat.mul_pos (by omega) hk0
       have hcell := (hall 0 (by omega)).1
       obtain ⟨arr, el, fz, hw⟩ : ∃ arr el fz, W.heap[bk]? = some (.cells arr el fz) := by
         unfold World.cell? at hcell
         split at hcell
         · rename_i e5; exact ⟨_, _, _, e5⟩
         · rw [List.getElem?_eq_getElem (by omega)] at hcell; cases hcell
       have hat : ∀ j, (hj : j < lc.length) → arr[j + off]? = some lc[j] := by
         intro j hj
         have := (hall j hj).1
         unfold World.cell? at this
         rw [hw] at this
         rw [List.getElem?_eq_getElem hj] at this
         rw [Nat.add_comm]; simpa using this
       have hsz : l.length + off ≤ arr.size := by
         have := (Array.getElem?_eq_some_iff.1 (hat (lc.length - 1) (by omega))).1
         omega
       have le : Le φ (fun b => if b = h.next then some (⟨bk, off, l.length, arr.size, 0⟩ : Im) else φ b) := by
         intro b j hj
         have := (r.lt b j hj).2
         show (if b = h.next then _ else φ b) = some j
         rw [if_neg (by omega)]; exact hj
       have getm : ∀ b, (h.m.set h.next (some (AObj.cells (T.fill l 0 .e) l.length 0 true))).get b = if b = h.next then some (AObj.cells (T.fill l 0 .e) l.length 0 true) else h.m.get b := fun b => T.get_set b
       refine ⟨.slice (some ⟨h.next, 0, none⟩) n cap, _, ⟨h.m.set h.next (some (AObj.cells (T.fill l 0 .e) l.length 0 true)), h.next + 1⟩, ⟨fun b i o hi ho => ?_, fun b i o hi ho hr => ?_, fun b b' i i' o o' hi hi' ho ho' hr hc => ?_, fun b i hi => ?_, trivial, r.below⟩, fun b o ho => ?_, le, ?_, ⟨by rw [hll, H.len], .inr ⟨h.next, 0, cap, _, l.length, 0, true, by omega, h0, rfl, Nat.lt_succ_self _, by show (h.m.set h.next _).get h.next = _; rw [getm, if_pos rfl], by rw [← H.len, ← hll]; omega, fun j hj => ?_⟩⟩, ⟨Nat.le_succ _, fun b hb _ => by show (h.m.set h.next _).get b = _; rw [getm, if_neg (by omega)]⟩, _, cap, rfl, by omega, by omega⟩
       · rw [getm] at ho
         by_cases e : b = h.next
         · rw [if_pos e] at ho hi; cases ho; cases hi
           refine ⟨rfl, rfl, trivial, arr, el, ⟨fz, hw, (fun e => by cases e), fun j hj => ?_⟩, rfl, hsz, fun j hj => ?_⟩
           · have := (hall j (by omega)).2
             rw [Nat.add_comm] at this; exact this
           · refine ⟨l[j], lc[j]'(by omega), ?_, hat j (by omega), (hlv j _ _ (List.getElem?_eq_getElem hj) (List.getElem?_eq_getElem (by omega))).mono le⟩
             rw [T.get_fill, if_pos (by omega)]
             simp [hj]
         · rw [if_neg e] at ho hi; exact (r.dom b i o hi ho).mono le
       · rw [getm] at ho
         by_cases e : b = h.next
         · rw [if_pos e] at ho; cases ho; cases hr
         · rw [if_neg e] at ho hi; exact r.low b i o hi ho hr
       · rw [getm] at ho
         by_cases e : b = h.next
         · rw [if_pos e] at ho; cases ho; cases hr
         · rw [if_neg e] at ho; have := hf b o ho; rw [hr] at this; cases this
       · by_cases e : b = h.next
         · rw [if_pos e] at hi; cases hi; exact ⟨hb, by subst e; exact Nat.lt_succ_self _⟩
         · rw [if_neg e] at hi; exact ⟨(r.lt b i hi).1, Nat.lt_succ_of_lt (r.lt b i hi).2⟩
       · rw [getm] at ho
         by_cases e : b = h.next
         · rw [if_pos e] at ho; cases ho; rfl
         · rw [if_neg e] at ho; exact hf b o ho
       · have := VR.slice (φ := fun b => if b = h.next then some (⟨bk, off, l.length, arr.size, 0⟩ : Im) else φ b) (a := ⟨h.next, 0, none⟩) (l := n) (c := cap) ⟨bk, off, l.length, arr.size, 0⟩ (if_pos rfl) rfl hopen
         simpa using this
       · rw [T.get_fill, if_pos (by omega)]
         simp
theorem holdRows {W : World} {k : Nat} (hk0 : 0 < k) {V : Nat → Value} {L : Nat → Nat} {C : Nat → List Value} : ∀ (n : Nat) {φ : Phi} {h : AH} (_ : R W φ h W) (_ : First h) (_ : ∀ i, i < n → HeldK k W (V i) (L i) (C i)),
  ∃ (V' : Nat → Value) (φ' : Phi) (h' : AH), R W φ' h' W ∧ First h' ∧ Le φ φ' ∧ (∀ i, i < n → VR φ' (V' i) (V i) ∧ Sd h' k (V' i) (L i) (C i) ∧ ∃ a c, V' i = .slice a (L i) c ∧ L i ≤ c ∧ c < open_) ∧ Sm Nix h h'
 | 0, φ, h, r, hf, _ => ⟨V, φ, h, r, hf, Le.refl φ, fun i hi => by omega, .refl⟩
 | n + 1, φ, h, r, hf, H => by
  obtain ⟨V1, φ1, h1, r1, f1, l1, a1, s1⟩ := holdRows hk0 n r hf (fun i hi => H i (by omega))
  have Hn := H n (Nat.lt_succ_self _)
  obtain ⟨v, φ2, h2, r2, f2, l2, a2, g2, s2, c2⟩ := holdR (l := C n) (lc := C n) r1 f1 hk0 ⟨Hn.len, Hn.has⟩ rfl (fun i x y hx hy => by rw [hx] at hy; cases hy; exact Hn.fl x (List.mem_of_getElem? hx) _)
  refine ⟨fun i => if i = n then v else V1 i, φ2, h2, r2, f2, fun b j hj => l2 b j (l1 b j hj), fun i hi => ?_, s1.ext s2⟩
  by_cases e : i = n
  · subst e; simp only [if_true]; exact ⟨a2, g2, c2⟩
  · simp only [if_neg e]
    obtain ⟨a3, g3, c3⟩ := a1 i (by omega)
    exact ⟨a3.mono l2, g3.ext s2, c3⟩
end
end Go.Arm
namespace Go.Proofs.Ytmehemeoaplepaa
open Go Go.ChangeShapes Go.WideShapes Go.ChangeAt Go.RowKit
theorem own : ownKnob Try.prog.godebug = none := by kernel_rfl
theorem law_calls {P : Program} [Go.X.Kn P] (hN : Go.X.NoCount P) (hM : P.follows .mixedOrders = true) {f : FuncId} {args : List Value} {args' : Array Value} {W : World} {h : Go.X.AH} {φ : Go.X.Phi} (hR : Go.X.R W φ h W)
  (ha : Go.X.LR φ args args'.toList) (hs : Arm.Calls P f args h (fun r => r.1 = .bool true)) : Go.Calls P f args' W fun e w' => e = .returned (.bool true) ∧ RowKit.Below W.heap.size W w' := by
 obtain ⟨l, hl, hall⟩ := hs
 have hc := (Go.X.eRun_callsOk (P := P) hN hM W _ _ _ φ W (.enter f ⟨args'.toList⟩) hl hR (.enter ha)).1 _ _ rfl
 refine Go.Calls.mono hc fun e w' he => ?_
 obtain ⟨v', rfl, v, h', hm, φ', _, hr, hv⟩ := he
 have := hall _ hm
 dsimp only at this
 subst this
 cases hv
 exact ⟨rfl, hr.below⟩
theorem wf8 {n : Int} (h3 : (Lit.int .u8 n).wf = true) : 0 ≤ n ∧ n < 256 := by
 simp [Lit.wf] at h3
 have e1 : IntKind.u8.min = 0 := by decide
 have e2 : IntKind.u8.max = 255 := by decide
 rw [e1, e2] at h3
 omega
theorem u8in {P : Program} {t : TypeId} (ht : P.underlying t = some (.int .u8)) {H : Type} {enc : TypeId × Value → H} {w : World} {base : Nat} {spare : Nat → Bool} {held : Bool} {n : Int} {d : DataW H} {ps : List MemPlace}
  (h : DataW.Trod enc P w base spare held t (.int .u8 n) d ps) : 0 ≤ n ∧ n < 256 := by
 obtain ⟨fuel, h⟩ := h
 obtain ⟨n', h1, _, h2⟩ := DataW.trod_int ht h
 have : [Value.int .u8 n] = [Value.int .u8 n'] := h1
 cases this
 exact wf8 h2
theorem openByte {H : Type} {enc : TypeId × Value → H} {w : World} {base : Nat} {spare : Nat → Bool} {held : Bool} (fuel : Nat) (cs : List Value) (x : DataW H × List MemPlace) (h : DataW.trod enc Try.prog w base spare held fuel 5 cs = some x) : ∃ a : UInt8, True ∧ cs = [Arm.bv a] := by
 obtain ⟨n, e, _, hw⟩ := DataW.trod_int Try.underlying5 h
 have := wf8 hw
 refine ⟨UInt8.ofNat n.toNat, trivial, e.trans ?_⟩
 unfold Arm.bv
 have : ((UInt8.ofNat n.toNat).toNat : Int) = n := by
  rw [UInt8.toNat_ofNat']
  omega
 rw [this]
theorem flat1 (L : Go.Mt.By) : L.flatMap (fun a => [Arm.bv a]) = L.map Arm.bv := by
 induction L with
 | nil => rfl
 | cons x l ih => rw [List.flatMap_cons, List.map_cons, ih]; rfl
theorem bytes_of {W : World} {H : Type} {enc : TypeId × Value → H} {held : Bool} {b0 : Option Addr} {len0 cap0 : Nat} {d : DataW H} {ps : List MemPlace}
  (h : DataW.Trod enc Try.prog W 0 (fun _ => true) held 23 (.slice b0 len0 cap0) d ps) (hz : W.noneFrozen ps) : ∃ l : Go.Mt.By, Go.X.HeldK 1 W (.slice b0 len0 cap0) l.length (l.map Arm.bv) := by
 obtain ⟨L, _, K⟩ := Go.X.heldK_of (k := 1) (f := fun a => [Arm.bv a]) (ok := fun _ => True) (by decide) (fun a => rfl) (fun a x hx φ => by
   rw [List.mem_singleton.1 hx]; exact .int _ _) Try.underlying23 (by kernel_rfl) openByte h hz
 refine ⟨L, ?_⟩
 rw [← flat1]
 exact K
end Go.Proofs.Ytmehemeoaplepaa
