/- A part of the row of LangJumps. -/
import Derived.Test.YtlgakeilplnfmaaGreatDoorYk
import Derived.Test.YtlgakeilplnfmaaGreatDoorYo
import Derived.Test.YtlgakeilplnfmaaGreatDoorProg
import Derived.ProofKit
import Derived.Deep.Slices
namespace Go.Proofs.YtlgakeilplnfmaaGreatDoor
noncomputable section
open Go Go.X Go.Arm Go.RowKit Go.Lj
structure Hd (W : World) (φ : Phi) (h : AH) (φ' : Phi) (h' : AH) : Prop where
 r : R W φ' h' W
 f : First h'
 le : Le φ φ'
 sm : Sm Nix h h'
theorem Hd.trans {W : World} {φ φ' φ2 : Phi} {h h' h2 : AH} (a : Hd W φ h φ' h') (b : Hd W φ' h' φ2 h2) : Hd W φ h φ2 h2 := ⟨b.r, b.f, fun x j hj => b.le x j (a.le x j hj), a.sm.ext b.sm⟩
abbrev Fh (h : AH) : Nat → Prop := fun b => b < h.next
theorem Fh.le {h h' : AH} {S : Nat → Prop} (s : Sm S h h') : ∀ b, Fh h b → Fh h' b := fun _b hb => Nat.lt_of_lt_of_le hb s.1
def HS (W : World) (v : Value) (l : List Nd) : Prop := ∀ φ h, R W φ h W → First h → ∃ v' φ' h', Hd W φ h φ' h' ∧ VR φ' v' v ∧ NdS (Fh h') h' v' l
def VL (φ : Phi) (l lc : List Value) : Prop := l.length = lc.length ∧ ∀ (i : Nat) (x y : Value), l[i]? = some x → lc[i]? = some y → VR φ x y
theorem VL.mono {φ φ' : Phi} {l lc : List Value} (H : VL φ l lc) (le : Le φ φ') : VL φ' l lc := ⟨H.1, fun i x y hx hy => (H.2 i x y hx hy).mono le⟩
theorem VL.nil {φ : Phi} : VL φ [] [] := ⟨rfl, fun i x y hx => by simp at hx⟩
theorem VL.cons {φ : Phi} {x y : Value} {l lc : List Value} (h : VR φ x y) (H : VL φ l lc) : VL φ (x :: l) (y :: lc) := ⟨congrArg (· + 1) H.1, fun i a b ha hb => by
 cases i with
 | zero => cases ha; cases hb; exact h
 | succ i => exact H.2 i a b ha hb⟩
theorem VL.app {φ : Phi} {c d c' d' : List Value} (H : VL φ c d) (G : VL φ c' d') : VL φ (c ++ c') (d ++ d') := ⟨by rw [List.length_append, List.length_append, H.1, G.1], fun i a b ha hb => by
 by_cases hi : i < c.length
 · rw [List.getElem?_append_left hi] at ha
   rw [List.getElem?_append_left (H.1 ▸ hi)] at hb
   exact H.2 i a b ha hb
 · rw [List.getElem?_append_right (by omega)] at ha
   rw [List.getElem?_append_right (by rw [← H.1]; omega), ← H.1] at hb
   exact G.2 _ a b ha hb⟩
def HN (W : World) (c : List Value) (x : Nd) : Prop := ∀ φ h, R W φ h W → First h → ∃ c' φ' h', Hd W φ h φ' h' ∧ VL φ' c' c ∧ NdC (Fh h') h' x c'
def HL (W : World) (c : List Value) (l : List Nd) : Prop := ∀ φ h, R W φ h W → First h → ∃ c' φ' h', Hd W φ h φ' h' ∧ VL φ' c' c ∧ NdL (Fh h') h' l c'
theorem NdS.up {h h' : AH} {v : Value} {l : List Nd} (H : NdS (Fh h) h v l) (s : Sm Nix h h') : NdS (Fh h') h' v l := H.sm s (fun _ _ => id) (Fh.le s)
theorem HN.mk {W : World} {va vb ve : Value} {x : Nd} (ha : HS W va x.a) (hb : HS W vb x.b) (he : HS W ve x.e) : HN W (x.c7 va vb ve) x := fun φ h r f => by
 obtain ⟨v1, φ1, h1, d1, r1, n1⟩ := ha φ h r f
 obtain ⟨v2, φ2, h2, d2, r2, n2⟩ := hb φ1 h1 d1.r d1.f
 obtain ⟨v3, φ3, h3, d3, r3, n3⟩ := he φ2 h2 d2.r d2.f
 exact ⟨_, φ3, h3, (d1.trans d2).trans d3, .cons (.int _ _) (.cons (.int _ _) (.cons (.string _) (.cons (.string _) (.cons ((r1.mono d2.le).mono d3.le) (.cons (r2.mono d3.le) (.cons r3 .nil)))))),
  NdC.mk (NdS.up (NdS.up n1 d2.sm) d3.sm) (NdS.up n2 d3.sm) n3⟩
theorem HL.nil {W : World} : HL W [] [] := fun φ h r f => ⟨[], φ, h, ⟨r, f, Le.refl φ, .refl⟩, .nil, NdL.nil⟩
theorem HL.cons {W : World} {c d : List Value} {x : Nd} {l : List Nd} (hx : HN W c x) (hl : HL W d l) : HL W (c ++ d) (x :: l) := fun φ h r f => by
 obtain ⟨c1, φ1, h1, d1, r1, n1⟩ := hx φ h r f
 obtain ⟨c2, φ2, h2, d2, r2, n2⟩ := hl φ1 h1 d1.r d1.f
 refine ⟨c1 ++ c2, φ2, h2, d1.trans d2, (r1.mono d2.le).app r2, ?_⟩
 unfold NdL
 exact ⟨c1, c2, rfl, NdC.sm d2.sm (fun _ _ => id) (Fh.le d2.sm) x c1 n1, n2⟩
theorem HL.all {W : World} {C : Nat → List Value} {X : Nat → Nd} : ∀ is : List Nat, (∀ i, i ∈ is → HN W (C i) (X i)) → HL W (is.flatMap C) (is.map X)
 | [], _ => HL.nil
 | i :: is, H => by
  rw [List.flatMap_cons, List.map_cons]
  exact HL.cons (H i List.mem_cons_self) (HL.all is fun j hj => H j (List.mem_cons_of_mem _ hj))
theorem HS.mk {W : World} {v : Value} {l : List Nd} {lc : List Value} (hl : l.length < Go.Lj.top) (K : HeldC 7 W v l.length lc) (H : HL W lc l) : HS W v l := fun φ h r f => by
 obtain ⟨c1, φ1, h1, d1, r1, n1⟩ := H φ h r f
 obtain ⟨v', φ2, h2, r2, f2, l2, a2, g2, s2, _⟩ := holdR (l := c1) d1.r d1.f (by decide) K r1.1 r1.2
 exact ⟨v', φ2, h2, d1.trans ⟨r2, f2, l2, s2⟩, a2, c1, g2, hl, fun q hq => g2.lt hq, NdL.sm s2 (fun _ _ => id) (Fh.le s2) l c1 n1⟩
theorem seven {l : List Value} (h : l.length = 7) : ∃ a b c d e f g, l = [a, b, c, d, e, f, g] := by
 match l, h with
 | [a, b, c, d, e, f, g], _ => exact ⟨a, b, c, d, e, f, g, rfl⟩
theorem node {H : Type} {enc : TypeId × Value → H} {W : World} {held : Bool} (n : Nat) (ih : ∀ m, m < n → ∀ (v : Value) (x : DataW H × List MemPlace), DataW.trod enc Tryz.prog W 0 (fun _ => true) held m 22 [v] = some x → W.noneFrozen x.2 → ∃ l : List Nd, HS W v l)
  (cs : List Value) (x : DataW H × List MemPlace) (h : DataW.trod enc Tryz.prog W 0 (fun _ => true) held n 44 cs = some x) (hz : W.noneFrozen x.2) : ∃ y : Nd, cs.length = 7 ∧ HN W cs y := by
 obtain ⟨xs, m, rfl, e, hl, hxs, hf⟩ := DataW.trod_struct Tryz.underlying44 h
 have c44 : Tryz.prog.cellsOf 44 = 7 := by kernel_rfl
 have c22 : Tryz.prog.cellsOf 22 = 1 := by kernel_rfl
 have c3 : Tryz.prog.cellsOf 3 = 1 := by kernel_rfl
 have c2 : Tryz.prog.cellsOf 2 = 1 := by kernel_rfl
 have c9 : Tryz.prog.cellsOf 9 = 1 := by kernel_rfl
 rw [c44] at hl
 obtain ⟨v0, v1, v2, v3, v4, v5, v6, rfl⟩ := seven hl
 have hx : ∀ i, i < 7 → ∃ y, xs[i]? = some y ∧ W.noneFrozen y.2 := fun i hi => ⟨_, List.getElem?_eq_getElem (by rw [hxs]; exact hi), fun b o hm => hz b o (by
  rw [e]; exact List.mem_flatMap.2 ⟨_, List.getElem_mem _, hm⟩)⟩
 have f0 : DataW.trod enc Tryz.prog W 0 (fun _ => true) held m 3 (([v0, v1, v2, v3, v4, v5, v6].drop 0).take (Tryz.prog.cellsOf 3)) = xs[0]? := hf 0 _ rfl
 have f1 : DataW.trod enc Tryz.prog W 0 (fun _ => true) held m 2 (([v0, v1, v2, v3, v4, v5, v6].drop 1).take (Tryz.prog.cellsOf 2)) = xs[1]? := hf 1 _ rfl
 have f2 : DataW.trod enc Tryz.prog W 0 (fun _ => true) held m 9 (([v0, v1, v2, v3, v4, v5, v6].drop 2).take (Tryz.prog.cellsOf 9)) = xs[2]? := hf 2 _ rfl
 have f3 : DataW.trod enc Tryz.prog W 0 (fun _ => true) held m 9 (([v0, v1, v2, v3, v4, v5, v6].drop 3).take (Tryz.prog.cellsOf 9)) = xs[3]? := hf 3 _ rfl
 have f4 : DataW.trod enc Tryz.prog W 0 (fun _ => true) held m 22 (([v0, v1, v2, v3, v4, v5, v6].drop 4).take (Tryz.prog.cellsOf 22)) = xs[4]? := hf 4 _ rfl
 have f5 : DataW.trod enc Tryz.prog W 0 (fun _ => true) held m 22 (([v0, v1, v2, v3, v4, v5, v6].drop 5).take (Tryz.prog.cellsOf 22)) = xs[5]? := hf 5 _ rfl
 have f6 : DataW.trod enc Tryz.prog W 0 (fun _ => true) held m 22 (([v0, v1, v2, v3, v4, v5, v6].drop 6).take (Tryz.prog.cellsOf 22)) = xs[6]? := hf 6 _ rfl
 obtain ⟨y0, e0, z0⟩ := hx 0 (by decide)
 obtain ⟨y1, e1, z1⟩ := hx 1 (by decide)
 obtain ⟨y2, e2, z2⟩ := hx 2 (by decide)
 obtain ⟨y3, e3, z3⟩ := hx 3 (by decide)
 obtain ⟨y4, e4, z4⟩ := hx 4 (by decide)
 obtain ⟨y5, e5, z5⟩ := hx 5 (by decide)
 obtain ⟨y6, e6, z6⟩ := hx 6 (by decide)
 rw [e0, c3] at f0
 rw [e1, c2] at f1
 rw [e2, c9] at f2
 rw [e3, c9] at f3
 rw [e4, c22] at f4
 rw [e5, c22] at f5
 rw [e6, c22] at f6
 obtain ⟨n0, h0, _⟩ := DataW.trod_int Tryz.underlying3 f0
 obtain ⟨n1, h1, _⟩ := DataW.trod_int Tryz.underlying2 f1
 obtain ⟨s2, h2, _⟩ := DataW.trod_string Tryz.underlying9 f2
 obtain ⟨s3, h3, _⟩ := DataW.trod_string Tryz.underlying9 f3
 simp at h0 h1 h2 h3
 subst h0 h1 h2 h3
 obtain ⟨a, ha⟩ := ih m (Nat.lt_succ_self _) v4 _ f4 z4
 obtain ⟨b, hb⟩ := ih m (Nat.lt_succ_self _) v5 _ f5 z5
 obtain ⟨c, hc⟩ := ih m (Nat.lt_succ_self _) v6 _ f6 z6
 exact ⟨.mk n0 n1 s2 s3 a b c, rfl, HN.mk (x := .mk n0 n1 s2 s3 a b c) ha hb hc⟩
theorem tree {H : Type} {enc : TypeId × Value → H} {W : World} {held : Bool} : ∀ (fuel : Nat) (v : Value) (x : DataW H × List MemPlace), DataW.trod enc Tryz.prog W 0 (fun _ => true) held fuel 22 [v] = some x → W.noneFrozen x.2 → ∃ l : List Nd, HS W v l := by
 intro fuel
 induction fuel using Nat.strongRecOn with
 | _ fuel ih =>
 intro v x h hz
 have c44 : Tryz.prog.cellsOf 44 = 7 := by kernel_rfl
 have c22 : Tryz.prog.cellsOf 22 = 1 := by kernel_rfl
 have c3 : Tryz.prog.cellsOf 3 = 1 := by kernel_rfl
 have c2 : Tryz.prog.cellsOf 2 = 1 := by kernel_rfl
 have c9 : Tryz.prog.cellsOf 9 = 1 := by kernel_rfl
 rcases DataW.trod_slice Tryz.underlying22 h with h0 | ⟨a, len, cap, elems, rest, n, hfu, e1, hx, _, hlc, hcm, hlen, hel, hsp, hns⟩
 · obtain ⟨e1, _⟩ := h0
   cases e1
   exact ⟨[], HS.mk (lc := []) (by decide) ⟨rfl, .inl ⟨rfl, rfl⟩⟩ (HL.all [] (C := fun _ => []) (X := fun _ => (.mk 0 0 .empty .empty [] [] [])) (fun _ h => by cases h))⟩
 · cases e1
   subst hfu
   obtain ⟨b, off, spot⟩ := a
   have hps : ∀ q ∈ elems, W.noneFrozen q.2 := fun q hq b' o' hm => hz b' o' (by rw [hx]; exact List.mem_append_right _ (List.mem_flatMap.2 ⟨q, List.mem_append_left _ hq, hm⟩))
   have key : ∀ i, i < len → ∃ (c : List Value) (x : Nd), c.length = 7 ∧ W.cells? 0 ((⟨b, off, spot⟩ : Addr).add (i * 7)) 7 = some c ∧ HN W c x := by
     intro i hi
     have h1 := hel i hi
     rw [List.getElem?_eq_getElem (by omega), c44] at h1
     obtain ⟨c, h2, h3⟩ := Option.bind_eq_some_iff.1 h1
     obtain ⟨x, h4, h5⟩ := node n (fun m hm => ih m (by omega)) c _ h3 (hps _ (List.getElem_mem _))
     exact ⟨c, x, h4, h2, h5⟩
   have hspot : 0 < cap → spot = none ∧ b < W.heap.size := by
     intro h0
     have h4 : ∃ v, W.cell? ((⟨b, off, spot⟩ : Addr).add 0) = some v := by
       have hc : ∃ c, W.cells? 0 ((⟨b, off, spot⟩ : Addr).add 0) 7 = some c := by
         by_cases hl : 0 < len
         · obtain ⟨c, _, _, h2, _⟩ := key 0 hl
           exact ⟨c, h2⟩
         · obtain ⟨hr, h1⟩ := hsp rfl
           have h1 := h1 0 (by omega)
           rw [List.getElem?_eq_getElem (by omega), c44, show (len + 0) * 7 = 0 by omega] at h1
           obtain ⟨c, h2, _⟩ := Option.bind_eq_some_iff.1 h1
           exact ⟨c, h2⟩
       obtain ⟨c, hc⟩ := hc
       obtain ⟨_, h2, h3⟩ := World.cells?_some hc
       have := h3 0 (by decide)
       rw [List.getElem?_eq_getElem (by omega)] at this
       exact ⟨_, this⟩
     obtain ⟨v, h4⟩ := h4
     have hs : spot = none := by simpa [Addr.add] using World.cell?_spot h4
     refine ⟨hs, ?_⟩
     unfold World.cell? at h4
     split at h4
     · rename_i e5; have := (Array.getElem?_eq_some_iff.1 e5).1; simpa [Addr.add] using this
     · cases h4
   obtain ⟨C, X, hC⟩ : ∃ (C : Nat → List Value) (X : Nat → Nd), ∀ i, (C i).length = 7 ∧ (i < len → W.cells? 0 ((⟨b, off, spot⟩ : Addr).add (i * 7)) 7 = some (C i) ∧ HN W (C i) (X i)) := by
     have : ∀ i, ∃ (c : List Value) (x : Nd), c.length = 7 ∧ (i < len → W.cells? 0 ((⟨b, off, spot⟩ : Addr).add (i * 7)) 7 = some c ∧ HN W c x) := fun i => by
       by_cases hi : i < len
       · obtain ⟨c, x, h1, h2, h3⟩ := key i hi
         exact ⟨c, x, h1, fun _ => ⟨h2, h3⟩⟩
       · exact ⟨List.replicate 7 .nilIface, (.mk 0 0 .empty .empty [] [] []), rfl, fun h => absurd h hi⟩
     exact ⟨fun i => Classical.choose (this i), fun i => Classical.choose (Classical.choose_spec (this i)), fun i => Classical.choose_spec (Classical.choose_spec (this i))⟩
   have hm : maxLen < Go.Lj.top := by decide
   refine ⟨(List.range len).map X, HS.mk (lc := (List.range len).flatMap C) (by rw [List.length_map, List.length_range]; omega) ?_ (HL.all _ fun i hi => ((hC i).2 (List.mem_range.1 hi)).2)⟩
   rw [List.length_map, List.length_range]
   refine ⟨by rw [flat_len C (fun i => (hC i).1), List.length_range], .inr ⟨⟨b, off, spot⟩, cap, rfl, hlc, hcm, hspot, fun i hi => ?_⟩⟩
   rw [flat_len C (fun i => (hC i).1), List.length_range] at hi
   have hq : i / 7 < len := (Nat.div_lt_iff_lt_mul (by decide)).2 hi
   have hr : i % 7 < 7 := Nat.mod_lt _ (by decide)
   have hi2 : i / 7 * 7 + i % 7 = i := by rw [Nat.mul_comm]; exact Nat.div_add_mod i 7
   obtain ⟨hs, _⟩ := hspot (by omega)
   subst hs
   obtain ⟨_, h2, h3⟩ := World.cells?_some ((hC (i / 7)).2 hq).1
   have h4 := h3 (i % 7) hr
   rw [WideShapes.add_plain, WideShapes.add_plain, show off + i / 7 * 7 + i % 7 = off + i by omega] at h4
   refine ⟨?_, hz b (off + i) ?_⟩
   · rw [h4]
     have := flat_get C (fun i => (hC i).1) (List.range len) (i / 7) (i % 7) hr
     rw [hi2] at this
     rw [this, List.getElem?_range hq]
     rfl
   · rw [hx, c44]
     refine List.mem_append_left _ ?_
     unfold MemPlace.row
     simp only [List.mem_map, List.mem_range]
     refine ⟨i, ?_, by simp⟩
     have : len * 7 ≤ (elems.length + rest.length) * 7 := Nat.mul_le_mul_right _ (by omega)
     omega
end
end Go.Proofs.YtlgakeilplnfmaaGreatDoor
