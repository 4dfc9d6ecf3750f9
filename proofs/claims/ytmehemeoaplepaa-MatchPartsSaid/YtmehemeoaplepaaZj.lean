/- Worlds of the program and walks of its functions. -/
import Derived.Test.YtmehemeoaplepaaZg
import Derived.Test.YtmehemeoaplepaaZi
import Derived.Test.YtmehemeoaplepaaProg
import Derived.ProofKit
import Derived.WalkKit
import Derived.OpenShut
import Derived.Deep.Slices
import Derived.Carry
import Derived.Test.YtmehemeoaplepaaZh
namespace Go.Proofs.Ytmehemeoaplepaa
noncomputable section
open Go Go.X Go.Arm
theorem noCount : NoCount Try.prog := noCount_of (by decide +kernel)
theorem mixed : Try.prog.follows .mixedOrders = true := by kernel_rfl
set_option maxRecDepth 100000 in
theorem evaluated : allYes (aRun Try.prog 1000 60 (.enter 8 []) ah0) = true := by kernel_rfl
theorem worksYes (W : World) : Calls Try.prog 8 #[] W (YesPost W) := yes_calls (W := W) noCount mixed 1000 60 .nil evaluated
instance kn : Kn Try.prog := ⟨some 8, fun g e W => by cases e; exact worksYes W, fun _ _ _ => none, fun _ _ _ _ e => by cases e⟩
theorem kr {p : Prop} (h : p := by kernel_rfl) : p := h
end
end Go.Proofs.Ytmehemeoaplepaa
namespace Go.Arm
noncomputable section
open Go Go.X
def ups {ρ α : Type} [DecidableEq ρ] (f : ρ → α) (r : ρ) (x : α) : ρ → α := fun r' => if r' = r then x else f r'
theorem ups_at {ρ α : Type} [DecidableEq ρ] (f : ρ → α) (r : ρ) (x : α) : ups f r x r = x := by unfold ups; rw [if_pos rfl]
theorem ups_ne {ρ α : Type} [DecidableEq ρ] (f : ρ → α) {r r' : ρ} (x : α) (h : r' ≠ r) : ups f r x r' = f r' := by unfold ups; rw [if_neg h]
theorem ups_id {ρ α : Type} [DecidableEq ρ] (f : ρ → α) (r : ρ) : ups f r (f r) = f := by
 funext r'
 unfold ups
 split
 · rename_i e; rw [e]
 · rfl
def Ws (h : AH) (k : Nat) (v : Value) (n : Nat) (cs : List Value) : Prop :=
 cs.length = n * k ∧ ((n = 0 ∧ ∃ a c, v = .slice a 0 c ∧ (a = none → c = 0) ∧ ∀ q, a = some q → q.block < h.next) ∨
  ∃ b o c cc nn op, 0 < n ∧ c ≠ 0 ∧ v = .slice (some ⟨b, o, none⟩) n c ∧ b < h.next ∧ h.m.get b = some (.cells cc nn op false) ∧ o + n * k ≤ nn ∧ ∀ j, j < cs.length → cc.get (o + j) = cs[j]?)
section
variable {P : Program} {h h' : AH} {S : Nat → Prop} {k n b : Nat} {v : Value} {cs : List Value} {T el : TypeId}
theorem Ws.sd (H : Ws h k v n cs) : Sd h k v n cs := by
 refine ⟨H.1, ?_⟩
 rcases H.2 with hl | ⟨b, o, c, cc, nn, op, h0, h1, e, h2, h3, h4, h5⟩
 · exact .inl hl
 · exact .inr ⟨b, o, c, cc, nn, op, false, h0, h1, e, h2, h3, h4, h5⟩
theorem Ws.sm (H : Ws h k v n cs) (s : Sm S h h') (hb : ∀ b, vb v = some b → ¬ S b) : Ws h' k v n cs := by
 obtain ⟨hl, hs⟩ := H
 refine ⟨hl, ?_⟩
 rcases hs with ⟨h0, a, c, e, h1, h2⟩ | ⟨b, o, c, cc, nn, op, h0, h1, rfl, h2, h3, h4, h5⟩
 · exact .inl ⟨h0, a, c, e, h1, fun q hq => Nat.lt_of_lt_of_le (h2 q hq) s.nx⟩
 · exact .inr ⟨b, o, c, cc, nn, op, h0, h1, rfl, Nat.lt_of_lt_of_le h2 s.nx, (s.get b h2 (hb b rfl)).trans h3, h4, h5⟩
theorem Cl.ws (hc : Cl h b cs) (hn : cs.length = n) : Ws h 1 (.slice (some ⟨b, 0, none⟩) n n) n cs := by
 refine ⟨by omega, ?_⟩
 obtain ⟨h1, c, op, h2, h3⟩ := hc
 by_cases h0 : n = 0
 · exact .inl ⟨h0, some ⟨b, 0, none⟩, n, by rw [h0], (fun e => by cases e), (fun q hq => by cases hq; exact h1)⟩
 · exact .inr ⟨b, 0, n, c, cs.length, op, by omega, h0, rfl, h1, h2, by omega, fun j hj => by rw [Nat.zero_add]; exact h3 j hj⟩
theorem Ws.elem {i : Nat} (hT : P.underlying T = some (.slice el)) (hk : szOf P el = some 1) (hs : scalT P el = true) (hg : Ws h 1 v n cs) (hi : i < n) (kd : IntKind) :
   ∃ p x, aIndex P T v (.int kd i) = some (.pointer (some p)) ∧ cs[i]? = some x ∧ aLoad P el p h = some x ∧ vb v = some p.block ∧
     ∀ u, cellsL u = [u] → u.oneCell' = true → ∃ h', aStore P el p u h = some h' ∧ Ws h' 1 v n (cs.set i u) ∧ Sm (fun b => vb v = some b) h h' ∧ h'.next = h.next := by
 obtain ⟨hl, hg⟩ := hg
 rcases hg with ⟨h0, _⟩ | ⟨b, o, c, cc, nn, op, h0, h1, rfl, h2, h3, h5, h6⟩
 · omega
 · have hil : i < cs.length := by omega
   refine ⟨⟨b, o + i, none⟩, cs[i], ?_, List.getElem?_eq_getElem hil, ?_, rfl, fun u hu hu1 => ?_⟩
   · unfold aIndex
     simp only [hT, hk]
     rw [if_pos ⟨h1, by omega, by omega⟩]
     simp
   · unfold scalT at hs
     cases hu : P.underlying el with
     | none => rw [hu] at hs; cases hs
     | some d =>
       rw [hu] at hs
       have hs : isAg d = false := by simpa using hs
       unfold aLoad
       simp only [hu, hs]
       show h.cell _ = _
       unfold AH.cell
       simp only [h3]
       rw [if_pos (by omega), h6 i (by omega), List.getElem?_eq_getElem hil]
   · refine ⟨⟨h.m.set b (some (.cells (cc.set (o + i) (some u)) nn op false)), h.next⟩, ?_, ⟨by rw [List.length_set]; exact hl, .inr ⟨b, o, c, cc.set (o + i) (some u), nn, op, h0, h1, rfl, h2, ?_, h5, fun j hj => ?_⟩⟩, ⟨Nat.le_refl _, fun x hx hn => ?_⟩, rfl⟩
     · unfold aStore
       simp only [hk, hu, List.length_singleton, if_true]
       unfold AH.setcs
       rw [if_pos hu1]
       dsimp only
       rw [Nat.add_zero]
       unfold AH.setc
       simp only [h3]
       rw [if_pos (by omega)]
       rfl
     · show (h.m.set b _).get b = _
       rw [X.T.get_set, if_pos rfl]
     · rw [List.length_set] at hj
       rw [X.T.get_set, List.getElem?_set]
       by_cases e : j = i
       · subst e; rw [if_pos rfl, if_pos rfl, if_pos hil]
       · rw [if_neg (by omega), if_neg (fun e2 => e e2.symm)]; exact h6 j hj
     · show (h.m.set b _).get x = _
       rw [X.T.get_set, if_neg (fun e => hn (by rw [e]; rfl))]
end
def Gw (g : Bool) (h : AH) (k : Nat) (v : Value) (n : Nat) (cs : List Value) : Prop := match g with
 | true => Gr h k v n cs
 | false => Ws h k v n cs
section
variable {h h' : AH} {S : Nat → Prop} {g : Bool} {k n : Nat} {v : Value} {cs : List Value}
end
section
variable {ρ : Type} [DecidableEq ρ] {h h' : AH} {S : Nat → Prop} {g : ρ → Bool} {k : ρ → Nat} {V : ρ → Value} {n : ρ → Nat} {cs : ρ → List Value}
structure Lay (h : AH) (g : ρ → Bool) (k : ρ → Nat) (V : ρ → Value) (n : ρ → Nat) (cs : ρ → List Value) : Prop where
 gr : ∀ r, Gw (g r) h (k r) (V r) (n r) (cs r)
 inj : ∀ r r' b, vb (V r) = some b → vb (V r') = some b → r = r'
end
section
variable {P : Program} {h h' : AH} {b o i n k : Nat} {cs : List Value} {v : Value} {T el : TypeId}
theorem ld_cell (hs : scalT P el = true) (hc : h.cell ⟨b, o, none⟩ = some v) : aLoad P el ⟨b, o, none⟩ h = some v := by
 unfold scalT at hs
 cases hu : P.underlying el with
 | none => rw [hu] at hs; cases hs
 | some d =>
  rw [hu] at hs
  have hs : isAg d = false := by simpa using hs
  unfold aLoad
  simp only [hu, hs]
  exact hc
theorem Gr.tailK (hT : P.underlying T = some (.slice el)) (hk : szOf P el = some k) (hg : Gr h k v (n + 1) cs) :
   ∃ v', aSl P T v (some (.int .i64 1)) none none h = some v' ∧ Gr h k v' n (cs.drop k) ∧ vb v' = vb v := by
 obtain ⟨hl, hg⟩ := hg
 rcases hg with ⟨h0, _⟩ | ⟨b, o, cc, nn, rfl, h2, h3, h4, h5, h6⟩
 · omega
 · have hkl : (n + 1) * k = n * k + k := Nat.succ_mul n k
   refine ⟨.slice (some ⟨b, o + k, none⟩) n open_, ?_, ⟨by rw [List.length_drop, hl, hkl]; omega, .inr ⟨b, o + k, cc, nn, rfl, h2, h3, h4, by omega, fun j hj => ?_⟩⟩, rfl⟩
   · have : aSlice P T (.slice (some ⟨b, o, none⟩) (n + 1) open_) (some (.int .i64 1)) none none h = some (.slice (some ⟨b, o + k, none⟩) n open_) := by
      unfold aSlice
      rw [if_pos (show mxOk none none = true from rfl)]
      simp only [hT, hk, if_true]
      have e1 : bnd none (n + 1) = some (n + 1) := rfl
      have e2 : bnd (some (.int .i64 1)) 0 = some 1 := rfl
      have e3 : opOf h b = some (nn, k) := by unfold opOf; rw [h3]
      simp only [e1, e2, e3]
      rw [if_pos ⟨by omega, trivial, .inl (Nat.le_refl _)⟩]
      simp
     unfold aSl
     rw [this]
   · rw [List.length_drop] at hj
     rw [show o + k + j = o + (k + j) by omega, h6 (k + j) (by omega), List.getElem?_drop]
end
end
end Go.Arm
namespace Go.Arm
structure TE where
 k : Int
 p : Int
 t : Int
 n : Int
 v : Int
 w : Bool
structure TS where
 b : Int
 e : Int
 w : Int
 y : Int
structure TC where
 s : Int
 c : Int
 r : Int
 m : Int
end Go.Arm
namespace Go.Arm
abbrev Lf := Nat → List TE
abbrev Sf := Nat → List TS
def tot (N : Nat) (S : Sf) : Nat := match N with
 | 0 => 0
 | k + 1 => tot k S + (S k).length
structure Gd (N : Nat) (L : Lf) (S : Sf) : Prop where
 le : ∀ p, (S p).length ≤ (L p).length
 hi : ∀ p, N ≤ p → S p = []
 e0 : ∀ p s, s ∈ S p → 0 ≤ s.e ∧ s.e ≤ tot N S * 2097152
end Go.Arm


namespace Go.X
noncomputable section
open Go Go.RowKit
structure Held (k : IntKind) (w : World) (v : Value) (l : List Int) : Prop where
 wf : ∀ x, x ∈ l → (Lit.int k x).wf = true
 has : (v = .slice none 0 0 ∧ l = []) ∨ ∃ a cap, v = .slice (some a) l.length cap ∧ l.length ≤ cap ∧ cap ≤ maxLen ∧ (0 < cap → a.spot = none ∧ a.block < w.heap.size) ∧
  ∀ i, i < l.length → w.cell? ⟨a.block, a.off + i, none⟩ = (l[i]?).map (.int k) ∧ w.frozen? ⟨a.block, a.off + i, none⟩ = false
end
end Go.X
namespace Go.Arm
noncomputable section
open Go Go.X Go.RowKit
def First (h : AH) : Prop := ∀ b o, h.m.get b = some o → o.ro = true
theorem first0 : First ah0 := fun b o h => by
 have : (T.e : T AObj).get b = some o := h
 rw [T.get_e] at this; cases this
end
end Go.Arm
namespace Go.X
noncomputable section
open Go Go.RowKit
structure HeldK (k : Nat) (w : World) (v : Value) (n : Nat) (cs : List Value) : Prop where
 len : cs.length = n * k
 fl : ∀ x, x ∈ cs → ∀ φ, VR φ x x
 has : (v = .slice none 0 0 ∧ n = 0) ∨ ∃ a cap, v = .slice (some a) n cap ∧ n ≤ cap ∧ cap ≤ maxLen ∧ (0 < cap → a.spot = none ∧ a.block < w.heap.size) ∧
  ∀ i, i < cs.length → w.cell? ⟨a.block, a.off + i, none⟩ = cs[i]? ∧ w.frozen? ⟨a.block, a.off + i, none⟩ = false
theorem flat_get {α : Type} (f : α → List Value) {k : Nat} (hf : ∀ a, (f a).length = k) : ∀ (l : List α) (i j : Nat), j < k → (l.flatMap f)[i * k + j]? = (l[i]?).bind fun a => (f a)[j]?
 | [], i, j, _ => by simp
 | a :: l, 0, j, hj => by
  rw [List.flatMap_cons, Nat.zero_mul, Nat.zero_add, List.getElem?_append_left (by rw [hf]; exact hj)]
  simp
 | a :: l, i + 1, j, hj => by
  have hk : (i + 1) * k + j = k + (i * k + j) := by rw [Nat.succ_mul]; omega
  rw [List.flatMap_cons, hk, List.getElem?_append_right (by rw [hf]; omega), hf, Nat.add_sub_cancel_left, flat_get f hf l i j hj]
  simp
theorem flat_len {α : Type} (f : α → List Value) {k : Nat} (hf : ∀ a, (f a).length = k) : ∀ (l : List α), (l.flatMap f).length = l.length * k
 | [] => by simp
 | a :: l => by rw [List.flatMap_cons, List.length_append, hf, flat_len f hf l, List.length_cons, Nat.succ_mul, Nat.add_comm]
theorem heldK_of {P : Program} {t e : TypeId} {α : Type} {k : Nat} {f : α → List Value} {ok : α → Prop} (hk0 : 0 < k) (hf : ∀ a, (f a).length = k) (hfl : ∀ a x, x ∈ f a → ∀ φ, VR φ x x) (ht : P.underlying t = some (.slice e)) (hc : P.cellsOf e = k) {H : Type} {enc : TypeId × Value → H} {w : World} {held : Bool}
   (ho : ∀ (fuel : Nat) (cs : List Value) (x : DataW H × List MemPlace), DataW.trod enc P w 0 (fun _ => true) held fuel e cs = some x → ∃ a : α, ok a ∧ cs = f a)
   {b0 : Option Addr} {len0 cap0 : Nat} {d : DataW H} {ps : List MemPlace}
   (h : DataW.Trod enc P w 0 (fun _ => true) held t (.slice b0 len0 cap0) d ps) (hz : w.noneFrozen ps) : ∃ l : List α, (∀ x, x ∈ l → ok x) ∧ HeldK k w (.slice b0 len0 cap0) l.length (l.flatMap f) := by
 obtain ⟨fuel, h⟩ := h
 rcases Deep.open_slice ht h with ⟨e1, _⟩ | ⟨a, len, cap, m, n, D, Pl, e1, _, hlc, hcm, hm, hx, hall⟩
 · have e1 : [Value.slice b0 len0 cap0] = [.slice none 0 0] := e1
   cases e1
   exact ⟨[], fun x hx => by (cases hx), (by simp), fun x hx => by (cases hx), .inl ⟨rfl, rfl⟩⟩
 · have e1 : [Value.slice b0 len0 cap0] = [.slice (some a) len cap] := e1
   cases e1
   have hm : m = cap0 := by simpa using hm
   rw [hc] at hall hx
   have key : ∀ i, i < m → ∃ x : α, ok x ∧ w.cells? 0 (a.add (i * k)) k = some (f x) := by
     intro i hi
     obtain ⟨cs', h1, h2⟩ := hall i hi
     obtain ⟨x, h3, h4⟩ := ho n cs' _ h2
     subst h4
     exact ⟨x, h3, h1⟩
   obtain ⟨b, off, spot⟩ := a
   have hspot : 0 < cap0 → spot = none ∧ b < w.heap.size := by
     intro h0
     obtain ⟨x, _, h1⟩ := key 0 (by omega)
     obtain ⟨_, h2, h3⟩ := World.cells?_some h1
     have h4 := h3 0 (by omega)
     rw [List.getElem?_eq_getElem (by rw [hf]; omega)] at h4
     have hs : spot = none := by simpa [Addr.add] using World.cell?_spot h4
     refine ⟨hs, ?_⟩
     unfold World.cell? at h4
     split at h4
     · rename_i e5; have := (Array.getElem?_eq_some_iff.1 e5).1; simpa [Addr.add] using this
     · cases h4
   refine ⟨List.ofFn (fun i : Fin len0 => Classical.choose (key i.1 (by omega))), fun x hx => ?_, flat_len f hf _, fun x hx φ => ?_, .inr ⟨⟨b, off, spot⟩, cap0, by simp, by simpa using hlc, hcm, hspot, fun i hi => ?_⟩⟩
   · rw [List.mem_ofFn] at hx
     obtain ⟨i, rfl⟩ := hx
     exact (Classical.choose_spec (key i.1 (by omega))).1
   · obtain ⟨y, _, hy⟩ := List.mem_flatMap.1 hx
     exact hfl y x hy φ
   · rw [flat_len f hf, List.length_ofFn] at hi
     have hq : i / k < len0 := (Nat.div_lt_iff_lt_mul hk0).2 hi
     have hr : i % k < k := Nat.mod_lt _ hk0
     have hi2 : i / k * k + i % k = i := by rw [Nat.mul_comm]; exact Nat.div_add_mod i k
     have h0l : 0 < len0 := Nat.lt_of_le_of_lt (Nat.zero_le _) hq
     obtain ⟨hs, _⟩ := hspot (by omega)
     subst hs
     obtain ⟨_, h6⟩ := Classical.choose_spec (key (i / k) (by omega))
     obtain ⟨_, h2, h3⟩ := World.cells?_some h6
     have h4 := h3 (i % k) hr
     have h7 : w.cell? ⟨b, off + i, none⟩ = (f (Classical.choose (key (i / k) (by omega))))[i % k]? := by
       have e1 : ((⟨b, off, none⟩ : Addr).add (i / k * k)).add (i % k) = ⟨b, off + i, none⟩ := by
        rw [WideShapes.add_plain, WideShapes.add_plain, show off + i / k * k + i % k = off + i by omega]
       rw [← e1]
       exact h4
     refine ⟨?_, ?_⟩
     · rw [h7]
       have := flat_get f hf (List.ofFn (fun i : Fin len0 => Classical.choose (key i.1 (by omega)))) (i / k) (i % k) hr
       rw [hi2] at this
       rw [this, List.getElem?_ofFn, dif_pos hq]
       rfl
     · have hps : MemPlace.cell b (off + i) ∈ ps := by
        have hx2 : ps = MemPlace.row ⟨b, off, none⟩ (m * k) ++ (List.range m).flatMap Pl := (Prod.mk.inj hx).2
        rw [hx2]
        refine List.mem_append_left _ ?_
        unfold MemPlace.row
        simp only [List.mem_map, List.mem_range]
        refine ⟨i, ?_, by simp⟩
        have : len0 * k ≤ m * k := Nat.mul_le_mul_right _ (by omega)
        omega
       exact hz b (off + i) hps
end
end Go.X
namespace Go.Arm
noncomputable section
open Go Go.X Go.RowKit
theorem holdK {W : World} {φ : Phi} {h : AH} (r : R W φ h W) (hf : First h) {k n : Nat} {v : Value} {l : List Value} (hk0 : 0 < k) (H : HeldK k W v n l) :
   ∃ v' φ' h', R W φ' h' W ∧ First h' ∧ Le φ φ' ∧ VR φ' v' v ∧ Sd h' k v' n l ∧ Sm Nix h h' := by
 have bump : R W φ ⟨h.m, h.next + 1⟩ W := ⟨r.dom, r.low, r.inj, fun b i hi => ⟨(r.lt b i hi).1, Nat.lt_succ_of_lt (r.lt b i hi).2⟩, trivial, r.below⟩
 have smb : Sm Nix h ⟨h.m, h.next + 1⟩ := ⟨Nat.le_succ _, fun _ _ _ => rfl⟩
 rcases H.has with ⟨rfl, rfl⟩ | ⟨a, cap, rfl, hlc, hcm, hpos, hall⟩
 · have hl0 : l = [] := List.length_eq_zero_iff.1 (by rw [H.len]; simp)
   subst hl0
   exact ⟨.slice none 0 0, φ, _, bump, hf, Le.refl φ, .nils 0 0, Sd.nil, smb⟩
 · by_cases h0 : cap = 0
   · subst h0
     have hn0 : n = 0 := by omega
     subst hn0
     have hl0 : l = [] := List.length_eq_zero_iff.1 (by rw [H.len]; simp)
     subst hl0
     exact ⟨.slice (some ⟨h.next, 0, none⟩) 0 0, φ, _, bump, hf, Le.refl φ, .slice0 _ _ _, ⟨(by simp), .inl ⟨rfl, _, _, rfl, (fun e => by cases e), fun q hq => by cases hq; exact Nat.lt_succ_self _⟩⟩, smb⟩
   · obtain ⟨hs, hb⟩ := hpos (by omega)
     obtain ⟨bk, off, spot⟩ := a
     dsimp only at hs hb hall
     subst hs
     have hopen : cap ≠ open_ := by
       have : maxLen < open_ := by decide
       omega
     by_cases hn0 : n = 0
     · subst hn0
       have hl0 : l = [] := List.length_eq_zero_iff.1 (by rw [H.len]; simp)
       subst hl0
       have le : Le φ (fun b => if b = h.next then some (⟨bk, off, 0, 0, 0⟩ : Im) else φ b) := by
         intro b j hj
         have := (r.lt b j hj).2
         show (if b = h.next then _ else φ b) = some j
         rw [if_neg (by omega)]; exact hj
       have hget : ∀ b o, h.m.get b = some o → ∀ i, (if b = h.next then some (⟨bk, off, 0, 0, 0⟩ : Im) else φ b) = some i → h.m.get b = none ∨ φ b = some i ∨ b = h.next := by
         intro b o _ i hi
         by_cases e : b = h.next
         · exact .inr (.inr e)
         · rw [if_neg e] at hi; exact .inr (.inl hi)
       have hnone : h.m.get h.next = none ∨ ∃ o, h.m.get h.next = some o := by
         cases h.m.get h.next with
         | none => exact .inl rfl
         | some o => exact .inr ⟨o, rfl⟩
       have getm : ∀ b, (h.m.set h.next none).get b = if b = h.next then none else h.m.get b := fun b => T.get_set b
       refine ⟨.slice (some ⟨h.next, 0, none⟩) 0 cap, _, ⟨h.m.set h.next none, h.next + 1⟩, ⟨fun b i o hi ho => ?_, fun b i o hi ho hr => ?_, fun b b' i i' o o' hi hi' ho ho' hr hc => ?_, fun b i hi => ?_, trivial, r.below⟩, fun b o ho => ?_, le, ?_, ⟨(by simp), .inl ⟨rfl, _, _, rfl, (fun e => by cases e), fun q hq => by cases hq; exact Nat.lt_succ_self _⟩⟩, ⟨Nat.le_succ _, fun b hb _ => by show (h.m.set h.next none).get b = _; rw [getm, if_neg (by omega)]⟩⟩
       · rw [getm] at ho
         by_cases e : b = h.next
         · rw [if_pos e] at ho; cases ho
         · rw [if_neg e] at ho hi; exact (r.dom b i o hi ho).mono le
       · rw [getm] at ho
         by_cases e : b = h.next
         · rw [if_pos e] at ho; cases ho
         · rw [if_neg e] at ho hi; exact r.low b i o hi ho hr
       · rw [getm] at ho
         by_cases e : b = h.next
         · rw [if_pos e] at ho; cases ho
         · rw [if_neg e] at ho; have := hf b o ho; rw [hr] at this; cases this
       · by_cases e : b = h.next
         · rw [if_pos e] at hi; cases hi; exact ⟨hb, by subst e; exact Nat.lt_succ_self _⟩
         · rw [if_neg e] at hi; exact ⟨(r.lt b i hi).1, Nat.lt_succ_of_lt (r.lt b i hi).2⟩
       · rw [getm] at ho
         by_cases e : b = h.next
         · rw [if_pos e] at ho; cases ho
         · rw [if_neg e] at ho; exact hf b o ho
       · have := VR.slice (φ := fun b => if b = h.next then some (⟨bk, off, 0, 0, 0⟩ : Im) else φ b) (a := ⟨h.next, 0, none⟩) (l := 0) (c := cap) ⟨bk, off, 0, 0, 0⟩ (if_pos rfl) rfl hopen
         simpa using this
     · have hl1 : 0 < l.length := by rw [H.len]; exact Nat.mul_pos (by omega) hk0
       have hcell := (hall 0 hl1).1
       obtain ⟨arr, el, fz, hw⟩ : ∃ arr el fz, W.heap[bk]? = some (.cells arr el fz) := by
         unfold World.cell? at hcell
         split at hcell
         · rename_i e5; exact ⟨_, _, _, e5⟩
         · rw [List.getElem?_eq_getElem hl1] at hcell; cases hcell
       have hat : ∀ j, (hj : j < l.length) → arr[j + off]? = some l[j] := by
         intro j hj
         have := (hall j hj).1
         unfold World.cell? at this
         rw [hw] at this
         rw [List.getElem?_eq_getElem hj] at this
         rw [Nat.add_comm]; simpa using this
       have hsz : l.length + off ≤ arr.size := by
         have := (Array.getElem?_eq_some_iff.1 (hat (l.length - 1) (by omega))).1
         omega
       have le : Le φ (fun b => if b = h.next then some (⟨bk, off, l.length, arr.size, 0⟩ : Im) else φ b) := by
         intro b j hj
         have := (r.lt b j hj).2
         show (if b = h.next then _ else φ b) = some j
         rw [if_neg (by omega)]; exact hj
       have getm : ∀ b, (h.m.set h.next (some (AObj.cells (T.fill l 0 .e) l.length 0 true))).get b = if b = h.next then some (AObj.cells (T.fill l 0 .e) l.length 0 true) else h.m.get b := fun b => T.get_set b
       refine ⟨.slice (some ⟨h.next, 0, none⟩) n cap, _, ⟨h.m.set h.next (some (AObj.cells (T.fill l 0 .e) l.length 0 true)), h.next + 1⟩, ⟨fun b i o hi ho => ?_, fun b i o hi ho hr => ?_, fun b b' i i' o o' hi hi' ho ho' hr hc => ?_, fun b i hi => ?_, trivial, r.below⟩, fun b o ho => ?_, le, ?_, ⟨H.len, .inr ⟨h.next, 0, cap, _, l.length, 0, true, by omega, h0, rfl, Nat.lt_succ_self _, by show (h.m.set h.next _).get h.next = _; rw [getm, if_pos rfl], by rw [← H.len]; omega, fun j hj => ?_⟩⟩, ⟨Nat.le_succ _, fun b hb _ => by show (h.m.set h.next _).get b = _; rw [getm, if_neg (by omega)]⟩⟩
       · rw [getm] at ho
         by_cases e : b = h.next
         · rw [if_pos e] at ho hi; cases ho; cases hi
           refine ⟨rfl, rfl, trivial, arr, el, ⟨fz, hw, (fun e => by cases e), fun j hj => ?_⟩, rfl, hsz, fun j hj => ?_⟩
           · have := (hall j hj).2
             rw [Nat.add_comm] at this; exact this
           · refine ⟨l[j], l[j], ?_, hat j hj, H.fl _ (List.getElem_mem hj) _⟩
             rw [T.get_fill, if_pos (by omega)]
             simp [hj]
         · rw [if_neg e] at ho hi; exact (r.dom b i o hi ho).mono le
       · rw [getm] at ho
         by_cases e : b = h.next
         · rw [if_pos e] at ho; cases ho; cases hr
         · rw [if_neg e] at ho hi; exact r.low b i o hi ho hr
       · rw [getm] at ho
         by_cases e : b = h.next
         · rw [if_pos e] at ho; cases ho; cases hr
         · rw [if_neg e] at ho; have := hf b o ho; rw [hr] at this; cases this
       · by_cases e : b = h.next
         · rw [if_pos e] at hi; cases hi; exact ⟨hb, by subst e; exact Nat.lt_succ_self _⟩
         · rw [if_neg e] at hi; exact ⟨(r.lt b i hi).1, Nat.lt_succ_of_lt (r.lt b i hi).2⟩
       · rw [getm] at ho
         by_cases e : b = h.next
         · rw [if_pos e] at ho; cases ho; rfl
         · rw [if_neg e] at ho; exact hf b o ho
       · have := VR.slice (φ := fun b => if b = h.next then some (⟨bk, off, l.length, arr.size, 0⟩ : Im) else φ b) (a := ⟨h.next, 0, none⟩) (l := n) (c := cap) ⟨bk, off, l.length, arr.size, 0⟩ (if_pos rfl) rfl hopen
         simpa using this
       · rw [T.get_fill, if_pos (by omega)]
         simp
end
end Go.Arm
namespace Go.Arm
noncomputable section
open Go Go.X
def nv (x : Int) : Value := .int .i64 x
section
variable {P : Program} {h h' : AH} {S F : Nat → Prop} {b o n k : Nat} {v : Value} {cs l : List Value} {T el : TypeId}
theorem cells_l : ∀ (l : List Value) (i : Nat), (∀ j, j < l.length → h.cell ⟨b, o + (i + j), none⟩ = l[j]?) → h.cells ⟨b, o, none⟩ i l.length = some l
 | [], i, _ => rfl
 | x :: l, i, hl => by
  have ih := cells_l l (i + 1) (fun j hj => by
   have := hl (j + 1) (by simpa using hj)
   rw [show i + 1 + j = i + (j + 1) by omega]
   simpa using this)
  have h0 : h.cell ⟨b, o + i, none⟩ = some x := hl 0 (by simp)
  show h.cells ⟨b, o, none⟩ i (l.length + 1) = _
  unfold AH.cells
  dsimp only
  rw [h0, ih]
theorem ld_l (hs : aggT P el l.length = true) (hl : ∀ j, j < l.length → h.cell ⟨b, o + j, none⟩ = l[j]?) : aLoad P el ⟨b, o, none⟩ h = some (.agg ⟨l⟩) := by
 unfold aggT at hs
 cases hu : P.underlying el with
 | none => rw [hu] at hs; cases hs
 | some d =>
  rw [hu] at hs
  simp only [Bool.and_eq_true] at hs
  cases hz : szOf P el with
  | none => rw [hz] at hs; cases hs.2
  | some j =>
   rw [hz] at hs
   have : j = l.length := Nat.eq_of_beq_eq_true hs.2
   subst this
   unfold aLoad
   simp only [hu, hs.1, if_true, hz]
   rw [cells_l l 0 (fun j hj => by rw [Nat.zero_add]; exact hl j hj)]
end
section
variable {P : Program} {h h' : AH} {S F F' : Nat → Prop} {V : Option Nat → Value} {N : Nat} {L : Lf} {T el : TypeId} {p i : Nat} {x : TE}
end
section
variable {P : Program} {h h' h1 h2 : AH} {Q F F' : Nat → Prop} {V : Option Nat → Value} {N hi B : Nat} {S : Sf} {T el : TypeId} {p i : Nat} {s : TS} {v' : Value}
end
end
end Go.Arm
namespace Go.Arm
noncomputable section
open Go Go.X
def k3 (m : Int × Int × Int) : Value := .agg ⟨[nv m.1, nv m.2.1, nv m.2.2]⟩
section
variable {h h' : AH} {F Q : Nat → Prop} {tb sb mb N : Nat} {VL : Option Nat → Value} {sp : Value} {L : Lf} {C : TC} {mt : List (Int × List (Nat × Nat))}
theorem ldx {P : Program} {h h' : AH} {T : TypeId} {b o : Nat} {v : Value} (hv : aLoad P T ⟨b, o, none⟩ h = some v) (hb : b < h.next) (t : Sm Nix h h') : aLoad P T ⟨b, o, none⟩ h' = some v := by
 have hg := t.get b hb (fun x => x)
 have hc : ∀ k : Nat, h'.cell ⟨b, k, none⟩ = h.cell ⟨b, k, none⟩ := fun k => by unfold AH.cell; simp only [hg]
 have hcs : ∀ (m i : Nat), h'.cells ⟨b, o, none⟩ i m = h.cells ⟨b, o, none⟩ i m := by
  intro m
  induction m with
  | zero => intro i; rfl
  | succ m ih => intro i; unfold AH.cells; dsimp only; rw [hc, ih]
 unfold aLoad at hv ⊢
 simp only [hc, hcs]
 exact hv
theorem Rk_lk {P : Program} {n : Nat} {ops : Array Oper} {f : Fr} {h : AH} {i : Nat} {r : List Nat} {o : Oper} {T : TypeId} {x y : Operand} {a b : Value} {c : Bool} {d : Nat} (v : Value) (ho : ops[i]? = some o) (hop : o.op = .lookup T x y c) (hd : o.dst = some d) (ha : ev n f x = some a) (hb : ev n f y = some b) (hv : aLookup P T a b c h = some v) (hf : f d = v) (k : Rk P n ops f h r) : Rk P n ops f h (i :: r) :=
 Rk_v (v := v) ho hd (by rw [hop]; simp only [evVal, ha, hb]; exact aLookupX_of hv) hf k
theorem Rk_ln {P : Program} {n : Nat} {ops : Array Oper} {f : Fr} {h : AH} {i : Nat} {r : List Nat} {o : Oper} {T : TypeId} {x : Operand} {a : Value} {d : Nat} (v : Value) (ho : ops[i]? = some o) (hop : o.op = .call ⟨.builtin .len, ⟨[x]⟩, ⟨[T]⟩⟩) (hd : o.dst = some d) (ha : ev n f x = some a) (hv : aLen P T a h = some v) (hf : f d = v) (k : Rk P n ops f h r) : Rk P n ops f h (i :: r) :=
 Rk_v (v := v) ho hd (by rw [hop]; simp only [evVal, ha]; exact hv) hf k
theorem Cl.all {P : Program} {h : AH} {b : Nat} {l : List Value} {T : TypeId} (hc : Cl h b l) (hT : aggT P T l.length = true) : aLoad P T ⟨b, 0, none⟩ h = some (.agg ⟨l⟩) := by
 have := hc.ldS (o := 0) hT (by omega)
 rw [List.drop_zero, List.take_length] at this
 exact this
theorem Cl.allN {P : Program} {h : AH} {b n : Nat} {l : List Value} {T : TypeId} (hc : Cl h b l) (hl : l.length = n) (hT : aggT P T n = true) : aLoad P T ⟨b, 0, none⟩ h = some (.agg ⟨l⟩) := hc.all (by rw [hl]; exact hT)
theorem Cl.storeN {P : Program} {h : AH} {b n : Nat} {l cs : List Value} {T : TypeId} {v : Value} (hc : Cl h b l) (hl : l.length = n) (hz : szOf P T = some n) (hv : cellsL v = cs) (hcs : cs.length = n) (h1 : ∀ v, v ∈ cs → v.oneCell' = true) :
 ∃ h', aStore P T ⟨b, 0, none⟩ v h = some h' ∧ Cl h' b cs ∧ Sm (fun k => k = b) h h' ∧ h'.next = h.next := hc.storeS (by rw [hl]; exact hz) hv (by rw [hl, hcs]) h1
end
end
end Go.Arm
namespace Go.Proofs.Ytmehemeoaplepaa
noncomputable section
open Go Go.X Go.Arm
end
end Go.Proofs.Ytmehemeoaplepaa
namespace Go.Arm
open Go Go.X Go.Proofs Go.Proofs.Ytmehemeoaplepaa
variable {S S' : Nat → Prop} {h h' h'' : AH}
theorem Sm.tr (s : Sm S h h') (k : Sm S' h' h'') (hs : ∀ x, S' x → S x ∨ h.next ≤ x := by
    intro x hx
    have hx : x = _ := hx
    first | exact .inr (by omega) | exact .inl (by subst hx; first | rfl | exact .inl rfl | exact .inr rfl | exact .inr (.inl rfl) | exact .inr (.inr rfl) | (show _ < _; omega))) : Sm S h h'' := s.trans k hs
variable {b : Nat} {l : List Value}
theorem Cl.sn (c : Cl h b l) (t : Sm S h h') (hn : ¬ S b := by (show ¬ _ = _); omega) : Cl h' b l := c.sm t hn
theorem Cl.sN (c : Cl h b l) (T : TypeId) (v : Value) (cs : List Value) (hl : l.length = cs.length := by exact rfl) (hz : szOf Try.prog T = some cs.length := by kernel_rfl) (hv : cellsL v = cs := by exact rfl) (h1 : ∀ v, v ∈ cs → v.oneCell' = true := by exact List.all_eq_true.1 rfl) :
    ∃ h', aStore Try.prog T ⟨b, 0, none⟩ v h = some h' ∧ Cl h' b cs ∧ Sm (fun k => k = b) h h' ∧ h'.next = h.next := Cl.storeN c hl hz hv rfl h1
theorem Cl.sA (c : Cl h b l) (T : TypeId) (cs : List Value) (hl : l.length = cs.length := by exact rfl) (hz : szOf Try.prog T = some cs.length := by kernel_rfl) (hv : cellsL (.agg ⟨cs⟩) = cs := by exact rfl) (h1 : ∀ v, v ∈ cs → v.oneCell' = true := by exact List.all_eq_true.1 rfl) :
    ∃ h', aStore Try.prog T ⟨b, 0, none⟩ (.agg ⟨cs⟩) h = some h' ∧ Cl h' b cs ∧ Sm (fun k => k = b) h h' ∧ h'.next = h.next := Cl.storeN c hl hz hv rfl h1
theorem Cl.s1 (c : Cl h b l) (T : TypeId) (o : Nat) (v : Value) (ho : o < l.length := by simp) (hz : szOf Try.prog T = some 1 := by kernel_rfl) (hv : cellsL v = [v] := by exact rfl) (h1 : v.oneCell' = true := by exact rfl) :
    ∃ h', aStore Try.prog T ⟨b, o, none⟩ v h = some h' ∧ Cl h' b (l.set o v) ∧ Sm (fun k => k = b) h h' ∧ h'.next = h.next := c.store hz hv h1 ho
variable {P : Program} {n : Nat} {ops : Array Oper} {rest : List Oper} {o : Oper} {f : Fr} {Q : Post}
theorem L_nwc [Kn P] (l : List Value) (mk : Mk) (hs : okO n o = true) (hk : kOp o.op = 0) (ha : evAl P n f o.op = some (.cells l, mk))
    (k : ∀ h', Cl h' h.next l → Sm Nix h h' → h'.next = h.next + 1 → L P n ops Q rest (updO f o.dst (mk.val h.next)) h') : L P n ops Q (o :: rest) f h :=
  L_nw (.cells l) mk hs hk ha (k _ (Cl.new h _) (.push h _) rfl)
variable {K : Fr → AH → Prop} {pre r : List Nat} {i : Nat}
theorem NS_nwc (l : List Value) (mk : Mk) (ho : ops[i]? = some o) (hw : wantF n ops o f = true) (hd : dOk n o.dst = true) (hk : opK o.op = 3) (ha : evAl P n f o.op = some (.cells l, mk))
    (hr : Rk P n ops (updO f o.dst (mk.val h.next)) (h.push (Al.cells l).obj) (pre ++ [i])) (k : ∀ h', Cl h' h.next l → Sm Nix h h' → h'.next = h.next + 1 → NS P n ops (pre ++ [i]) K r (updO f o.dst (mk.val h.next)) h') : NS P n ops pre K (i :: r) f h :=
  NS_newR (.cells l) mk ho hw hd hk ha hr (k _ (Cl.new h _) (.push h _) rfl)
variable {w : AH}
variable [Kn P]
theorem W_sr {l : List Oper} {id : Nat} {y : Code} (h : L P n l.toArray (Then (fun f w => W P n y Q f w) Q) l f w) : W P n (.seq (.region id l.toArray false) y) Q f w := W_seq (W_region h)
theorem W_rg (k : Nat) {id : Nat} {l : List Oper} (hs : okG P n w l.toArray (l.take k) f = true) (h : L P n l.toArray Q (l.drop k) (runG P n w l.toArray (l.take k) f) w) : W P n (.region id l.toArray false) Q f w := W_region (L_g k hs h)
theorem W_sg (k : Nat) {id : Nat} {l : List Oper} {y : Code} (hs : okG P n w l.toArray (l.take k) f = true) (h : L P n l.toArray (Then (fun f w => W P n y Q f w) Q) (l.drop k) (runG P n w l.toArray (l.take k) f) w) : W P n (.seq (.region id l.toArray false) y) Q f w := W_seq (W_region (L_g k hs h))
theorem Calls_W (n : Nat) (fn : Func) {k : FuncId} {c : Code} {args : List Value} {R : Value × AH → Prop} (h : W P n c (Done P n fn R) (entry args) w)
    (hf : P.funcs[k]? = some fn := by kernel_rfl) (hb : fn.body = some c := by exact rfl) (hn : fn.ntmps = n := by exact rfl) (hl : args.length ≤ n := by exact Nat.le_of_ble_eq_true rfl) (ht : T.Ok n := by trivial) (hk : (Kn.f P ≠ some k ∨ args ≠ []) ∧ Kn.g P k args w = none := by exact ⟨.inr (by simp), rfl⟩) : Calls P k args w R := Calls_of_W hf hb hn hl ht hk h
end Go.Arm
namespace Go.Mt
open Go.Arm
abbrev By := List UInt8
structure En where
 src : Int
 ctx : Int
 tag : Int
 size : Int
 parts : Int
deriving DecidableEq
inductive Pk
 | eager (e : En) (d : By)
 | ask (e : En) (req : Int)
 | credit
 | clear (req : Int)
 | body (req : Int) (d : By)
 | part (req i : Int) (d : By)
inductive Ms
 | eager (e : En) (d : By)
 | ask (e : En) (req : Int)
def Ms.en : Ms → En
 | .eager e _ => e
 | .ask e _ => e
structure St where
 src : Int
 tag : Int
 size : Int
 err : Int
deriving DecidableEq
def St.z : St := ⟨0, 0, 0, 0⟩
structure Rq where
 no : Nat
 peer : Int
 ctx : Int
 tag : Int
 room : Int
 send : Bool
 sync : Bool
 pers : Bool
 act : Bool
 done : Bool
 parts : Nat
 size : Nat
 data : By
 pcs : List (Option By)
 gone : Nat
 sent : List Bool
 clr : Bool
 st : St
structure Pr where
 next : Nat
 reqs : List Nat
 exps : List ((Int × Int) × Nat)
 inb : List (Int × Pk)
 msgs : List Ms
 rcvs : List Nat
 crds : List Int
structure Wd where
 lim : Int
 n : Nat
 pr : Nat → Pr
 rq : Nat → Nat → Rq
 way : Int → Int → List Pk
def big : Nat := 1000000000
namespace Wd
def setPr (w : Wd) (p : Nat) (x : Pr) : Wd := { w with pr := ups w.pr p x }
def setRq (w : Wd) (p no : Nat) (x : Rq) : Wd := { w with rq := ups w.rq p (ups (w.rq p) no x) }
def setWay (w : Wd) (a b : Int) (l : List Pk) : Wd := { w with way := ups w.way a (ups (w.way a) b l) }
theorem setRq_at (w : Wd) (p no : Nat) (x : Rq) : (w.setRq p no x).rq p no = x := by
 show ups w.rq p (ups (w.rq p) no x) p no = x
 rw [ups_at, ups_at]
theorem setRq_setRq (w : Wd) (p no : Nat) (x y : Rq) : (w.setRq p no x).setRq p no y = w.setRq p no y := by
 unfold setRq
 congr 1
 funext q
 by_cases e : q = p
 · subst e
   funext k
   by_cases e2 : k = no
   · subst e2; simp [ups]
   · simp [ups, e2]
 · simp [ups, e]
theorem setPr_at (w : Wd) (p : Nat) (x : Pr) : (w.setPr p x).pr p = x := ups_at _ _ _
def put (w : Wd) (a b : Int) (x : Pk) : Option Wd := if (w.way a b).length < big then some (w.setWay a b (w.way a b ++ [x])) else none
end Wd
def Rq.fits (r : Rq) (e : En) : Bool := !(e.ctx != r.ctx || (r.peer != -1 && r.peer != e.src) || (r.tag != -1 && r.tag != e.tag)) && (e.parts == r.parts && (r.parts == 0 || e.size == ((r.parts * r.size : Nat) : Int)))
def Rq.gets (r : Rq) (d : By) : Rq := if r.parts = 0 ∧ r.room < d.length then { r with data := d.take r.room.toNat, done := true, st := { r.st with err := 15 } } else { r with data := d, done := true }
def Rq.small (r : Rq) : Prop := r.parts * r.size < big
instance (r : Rq) : Decidable r.small := inferInstanceAs (Decidable (_ < _))
theorem Rq.fits_split (r : Rq) (e : En) : (e.ctx ≠ r.ctx ∧ r.fits e = false) ∨ (e.ctx = r.ctx ∧ r.peer ≠ -1 ∧ r.peer ≠ e.src ∧ r.fits e = false) ∨
   (e.ctx = r.ctx ∧ r.peer = -1 ∧ r.tag ≠ -1 ∧ r.tag ≠ e.tag ∧ r.fits e = false) ∨ (e.ctx = r.ctx ∧ r.peer ≠ -1 ∧ r.peer = e.src ∧ r.tag ≠ -1 ∧ r.tag ≠ e.tag ∧ r.fits e = false) ∨
   (e.ctx = r.ctx ∧ r.peer = -1 ∧ r.tag = -1 ∧ r.fits e = (e.parts == r.parts && (r.parts == 0 || e.size == ((r.parts * r.size : Nat) : Int)))) ∨ (e.ctx = r.ctx ∧ r.peer ≠ -1 ∧ r.peer = e.src ∧ r.tag = -1 ∧ r.fits e = (e.parts == r.parts && (r.parts == 0 || e.size == ((r.parts * r.size : Nat) : Int)))) ∨
   (e.ctx = r.ctx ∧ r.peer = -1 ∧ r.tag ≠ -1 ∧ r.tag = e.tag ∧ r.fits e = (e.parts == r.parts && (r.parts == 0 || e.size == ((r.parts * r.size : Nat) : Int)))) ∨ (e.ctx = r.ctx ∧ r.peer ≠ -1 ∧ r.peer = e.src ∧ r.tag ≠ -1 ∧ r.tag = e.tag ∧ r.fits e = (e.parts == r.parts && (r.parts == 0 || e.size == ((r.parts * r.size : Nat) : Int)))) := by
 unfold Rq.fits
 by_cases h1 : e.ctx = r.ctx
 · by_cases h2 : r.peer = -1
   · by_cases h3 : r.tag = -1
     · simp [h1, h2, h3] <;> omega
     · by_cases h4 : r.tag = e.tag <;> simp [h1, h2, h3, h4] <;> omega
   · by_cases h5 : r.peer = e.src
     · by_cases h3 : r.tag = -1
       · simp [h1, h3, h5] <;> omega
       · by_cases h4 : r.tag = e.tag <;> simp [h1, h3, h4, h5] <;> omega
     · simp [h1, h2, h5] <;> omega
 · simp [h1] <;> omega
namespace Wd
def mtch (w : Wd) (p no : Nat) (m : Ms) : Option Wd :=
 let r := { w.rq p no with st := ⟨m.en.src, m.en.tag, m.en.size, 0⟩ }
 match m with
 | .eager e d => if d.length < big ∧ 0 ≤ r.room then (w.setRq p no (r.gets d)).put p e.src .credit else none
 | .ask e q => ((w.setRq p no r).setPr p { w.pr p with exps := kset (w.pr p).exps (e.src, q) no }).put p e.src (.clear q)
def came (w : Wd) (p : Nat) (m : Ms) : Option Wd := if ¬ ((∀ no, no ∈ (w.pr p).rcvs → (w.rq p no).small) ∧ (w.pr p).rcvs.length < big) then none else
 match (w.pr p).rcvs.findIdx? fun no => (w.rq p no).fits m.en with
 | some i => (w.setPr p { w.pr p with rcvs := (w.pr p).rcvs.eraseIdx i }).mtch p ((w.pr p).rcvs.getD i 0) m
 | none => if (w.pr p).msgs.length < big then some (w.setPr p { w.pr p with msgs := (w.pr p).msgs ++ [m] }) else none
def spart (w : Wd) (p no i : Nat) : Option Wd :=
 match (w.rq p no).pcs[i]? with
 | some (some d) => match (w.rq p no).sent[i]? with
  | some false => if (w.rq p no).gone < big then (w.put p (w.rq p no).peer (.part (w.rq p no).no i d)).map fun w' => w'.setRq p no { w'.rq p no with sent := (w'.rq p no).sent.set i true, gone := (w'.rq p no).gone + 1 } else none
  | some true => some w
  | none => none
 | _ => some w
def spartsL (p no : Nat) : List Nat → Wd → Option Wd
 | [], w => some w
 | i :: l, w => match w.spart p no i with
  | some w' => spartsL p no l w'
  | none => none
def sparts (w : Wd) (p no : Nat) : Option Wd := if (w.rq p no).pcs.length < big then (spartsL p no (List.range (w.rq p no).pcs.length) w).map fun w' => w'.setRq p no { w'.rq p no with done := decide ((w'.rq p no).gone = (w'.rq p no).parts) } else none
theorem put_n {w w' : Wd} {a b : Int} {x : Pk} (h : w.put a b x = some w') : w'.n = w.n := by
 unfold put at h
 split at h
 · cases h; rfl
 · cases h
theorem spart_n {w w' : Wd} {p no i : Nat} (h : w.spart p no i = some w') : w'.n = w.n := by
 unfold spart at h
 split at h
 · split at h
   · split at h
     · rw [Option.map_eq_some_iff] at h
       obtain ⟨w1, h1, rfl⟩ := h
       have e := put_n h1
       exact e
     · cases h
   · cases h; rfl
   · cases h
 · cases h; rfl
theorem spartsL_n {p no : Nat} : ∀ {l : List Nat} {w w' : Wd}, spartsL p no l w = some w' → w'.n = w.n
 | [], w, w', h => by cases h; rfl
 | i :: l, w, w', h => by
  unfold spartsL at h
  split at h
  · rename_i w1 h1; rw [spartsL_n h, spart_n h1]
  · cases h
theorem sparts_n {w w' : Wd} {p no : Nat} (h : w.sparts p no = some w') : w'.n = w.n := by
 unfold sparts at h
 split at h
 · rw [Option.map_eq_some_iff] at h
   obtain ⟨w1, h1, rfl⟩ := h
   have e := spartsL_n h1
   exact e
 · cases h
def pget (r : Rq) (i : Nat) (d : By) : Rq := { r with pcs := r.pcs.set i (some d) }
def catD (l : List (Option By)) : By := l.flatMap fun x => x.getD []
def handle (w : Wd) (p : Nat) (f : Int) (x : Pk) : Option Wd :=
  match x with
  | .eager e d => w.came p (.eager e d)
  | .ask e q => w.came p (.ask e q)
  | .credit => if 0 ≤ f ∧ f < (w.pr p).crds.length ∧ (w.pr p).crds.getD f.toNat 0 < big ∧ 0 ≤ (w.pr p).crds.getD f.toNat 0 then some (w.setPr p { w.pr p with crds := (w.pr p).crds.set f.toNat ((w.pr p).crds.getD f.toNat 0 + 1) }) else none
  | .clear q => if 0 ≤ q ∧ q.toNat ∈ (w.pr p).reqs then
      (if (w.rq p q.toNat).parts = 0 then ((w.put p f (.body q (w.rq p q.toNat).data)).map fun w' => w'.setRq p q.toNat { w'.rq p q.toNat with done := true }) else (w.setRq p q.toNat { w.rq p q.toNat with clr := true }).sparts p q.toNat) else none
  | .body q d => match kget (w.pr p).exps (f, q) with
    | some no => if d.length < big ∧ 0 ≤ (w.rq p no).room then some ((w.setRq p no ((w.rq p no).gets d)).setPr p { w.pr p with exps := kdel (w.pr p).exps (f, q) }) else none
    | none => none
  | .part q i d => match kget (w.pr p).exps (f, q) with
    | some no => if 0 ≤ i ∧ i.toNat < (w.rq p no).pcs.length ∧ (w.rq p no).pcs.length < big ∧ (catD (pget (w.rq p no) i.toNat d).pcs).length < big ∧ 0 ≤ (w.rq p no).room then
        (if (pget (w.rq p no) i.toNat d).pcs.any Option.isNone = true then some (w.setRq p no (pget (w.rq p no) i.toNat d))
         else some ((w.setRq p no ((pget (w.rq p no) i.toNat d).gets (catD (pget (w.rq p no) i.toNat d).pcs))).setPr p { w.pr p with exps := kdel (w.pr p).exps (f, q) })) else none
    | none => none
def handles (p : Nat) : Wd → List (Int × Pk) → Option Wd
 | w, [] => some w
 | w, x :: l => match w.handle p x.1 x.2 with
  | some w' => handles p w' l
  | none => none
theorem handles_cons {p : Nat} {w w' : Wd} {x : Int × Pk} {l : List (Int × Pk)} (h : handles p w (x :: l) = some w') : ∃ w1, w.handle p x.1 x.2 = some w1 ∧ handles p w1 l = some w' := by
 unfold handles at h
 split at h
 · rename_i w1 h1; exact ⟨w1, h1, h⟩
 · cases h
theorem mtch_n {w w' : Wd} {p no : Nat} {m : Ms} (h : w.mtch p no m = some w') : w'.n = w.n := by
 unfold mtch at h
 dsimp only at h
 split at h
 · split at h
   · exact Eq.trans (put_n h) rfl
   · cases h
 · exact Eq.trans (put_n h) rfl
theorem came_n {w w' : Wd} {p : Nat} {m : Ms} (h : w.came p m = some w') : w'.n = w.n := by
 unfold came at h
 split at h
 · cases h
 · split at h
   · exact Eq.trans (mtch_n h) rfl
   · split at h
     · cases h; rfl
     · cases h
theorem handle_n {w w' : Wd} {p : Nat} {f : Int} {x : Pk} (h : w.handle p f x = some w') : w'.n = w.n := by
 unfold handle at h
 split at h
 · exact Eq.trans (came_n h) rfl
 · exact Eq.trans (came_n h) rfl
 · split at h
   · cases h; rfl
   · cases h
 · split at h
   · split at h
     · rw [Option.map_eq_some_iff] at h
       obtain ⟨w1, h1, rfl⟩ := h
       have e := put_n h1
       exact e
     · exact Eq.trans (sparts_n h) rfl
   · cases h
 · split at h
   · split at h
     · cases h; rfl
     · cases h
   · cases h
 · split at h
   · split at h
     · split at h
       · cases h; rfl
       · cases h; rfl
     · cases h
   · cases h
theorem handles_n {p : Nat} : ∀ {l : List (Int × Pk)} {w w' : Wd}, handles p w l = some w' → w'.n = w.n
 | [], w, w', h => by cases h; rfl
 | x :: l, w, w', h => by
  obtain ⟨w1, h1, h2⟩ := handles_cons h
  rw [handles_n h2, handle_n h1]
def call (w : Wd) (p : Nat) : Option Wd := if (w.pr p).inb.length < big then handles p (w.setPr p { w.pr p with inb := [] }) (w.pr p).inb else none
theorem call_n {w w' : Wd} {p : Nat} (h : w.call p = some w') : w'.n = w.n := by
 unfold call at h
 split at h
 · exact Eq.trans (handles_n h) rfl
 · cases h
def add (w : Wd) (p : Nat) (r : Rq) : Option Wd := if (w.pr p).next < big ∧ (w.pr p).next ∉ (w.pr p).reqs then
 some (((w.setPr p { w.pr p with next := (w.pr p).next + 1 }).setRq p (w.pr p).next { r with no := (w.pr p).next }).setPr p { w.pr p with next := (w.pr p).next + 1, reqs := (w.pr p).reqs ++ [(w.pr p).next] }) else none
def send (w : Wd) (p no : Nat) (e : En) : Option Wd :=
  let r := w.rq p no
  if r.peer = -2 then some (w.setRq p no { r with done := true })
  else if r.sync = true ∨ r.parts > 0 ∨ e.size > w.lim then w.put p r.peer (.ask e r.no)
  else if 0 ≤ r.peer ∧ r.peer < (w.pr p).crds.length then
    (if (w.pr p).crds.getD r.peer.toNat 0 = 0 then w.put p r.peer (.ask e r.no)
     else if 0 < (w.pr p).crds.getD r.peer.toNat 0 ∧ (w.pr p).crds.getD r.peer.toNat 0 < big then
      (((w.setPr p { w.pr p with crds := (w.pr p).crds.set r.peer.toNat ((w.pr p).crds.getD r.peer.toNat 0 - 1) }).put p r.peer (.eager e r.data)).map fun w' => w'.setRq p no { r with done := true })
     else none) else none
theorem send_split {w w' : Wd} {p no : Nat} {e : En} (h : w.send p no e = some w') :
   ((w.rq p no).peer = -2 ∧ w' = w.setRq p no { w.rq p no with done := true }) ∨ ((w.rq p no).peer ≠ -2 ∧ (w.rq p no).sync = true ∧ w.put p (w.rq p no).peer (.ask e (w.rq p no).no) = some w') ∨
   ((w.rq p no).peer ≠ -2 ∧ (w.rq p no).sync = false ∧ 0 < (w.rq p no).parts ∧ w.put p (w.rq p no).peer (.ask e (w.rq p no).no) = some w') ∨ ((w.rq p no).peer ≠ -2 ∧ (w.rq p no).sync = false ∧ (w.rq p no).parts = 0 ∧ w.lim < e.size ∧ w.put p (w.rq p no).peer (.ask e (w.rq p no).no) = some w') ∨
   (∃ i : Nat, (w.rq p no).peer = (i : Int) ∧ i < (w.pr p).crds.length ∧ (w.rq p no).sync = false ∧ (w.rq p no).parts = 0 ∧ e.size ≤ w.lim ∧ (w.pr p).crds.getD i 0 = 0 ∧ w.put p (w.rq p no).peer (.ask e (w.rq p no).no) = some w') ∨
   (∃ (i : Nat) (w1 : Wd), (w.rq p no).peer = (i : Int) ∧ i < (w.pr p).crds.length ∧ (w.rq p no).sync = false ∧ (w.rq p no).parts = 0 ∧ e.size ≤ w.lim ∧ 0 < (w.pr p).crds.getD i 0 ∧ (w.pr p).crds.getD i 0 < big ∧
     (w.setPr p { w.pr p with crds := (w.pr p).crds.set i ((w.pr p).crds.getD i 0 - 1) }).put p (w.rq p no).peer (.eager e (w.rq p no).data) = some w1 ∧ w' = w1.setRq p no { w.rq p no with done := true }) := by
 unfold send at h
 dsimp only at h
 split at h
 · rename_i h1
   exact .inl ⟨h1, (Option.some.inj h).symm⟩
 · rename_i h1
   split at h
   · rename_i h2
     cases hs : (w.rq p no).sync with
     | true => exact .inr (.inl ⟨h1, rfl, h⟩)
     | false =>
       rw [hs] at h2
       by_cases hp : 0 < (w.rq p no).parts
       · exact .inr (.inr (.inl ⟨h1, rfl, hp, h⟩))
       · refine .inr (.inr (.inr (.inl ⟨h1, rfl, by omega, ?_, h⟩)))
         rcases h2 with h2 | h2 | h2
         · cases h2
         · exact (hp h2).elim
         · exact h2
   · rename_i h2
     have hs : (w.rq p no).sync = false := by
       cases hs : (w.rq p no).sync with
       | true => exact (h2 (.inl hs)).elim
       | false => rfl
     have hp : (w.rq p no).parts = 0 := by
       by_cases hp : (w.rq p no).parts > 0
       · exact (h2 (.inr (.inl hp))).elim
       · omega
     have hl : e.size ≤ w.lim := by
       by_cases hl : e.size > w.lim
       · exact (h2 (.inr (.inr hl))).elim
       · omega
     split at h
     · rename_i h3
       obtain ⟨i, hi⟩ : ∃ i : Nat, (w.rq p no).peer = (i : Int) := ⟨(w.rq p no).peer.toNat, by omega⟩
       have hit : (w.rq p no).peer.toNat = i := by omega
       rw [hit] at h
       split at h
       · rename_i h4
         exact .inr (.inr (.inr (.inr (.inl ⟨i, hi, by omega, hs, hp, hl, h4, h⟩))))
       · split at h
         · rename_i h5
           rw [Option.map_eq_some_iff] at h
           obtain ⟨w1, a, b⟩ := h
           exact .inr (.inr (.inr (.inr (.inr ⟨i, w1, hi, by omega, hs, hp, hl, h5.1, h5.2, a, b.symm⟩))))
         · cases h
     · cases h
theorem send_n {w w' : Wd} {p no : Nat} {e : En} (h : w.send p no e = some w') : w'.n = w.n := by
 rcases send_split h with ⟨_, rfl⟩ | ⟨_, _, h⟩ | ⟨_, _, _, h⟩ | ⟨_, _, _, _, h⟩ | ⟨_, _, _, _, _, _, _, h⟩ | ⟨_, w1, _, _, _, _, _, _, _, h2, rfl⟩
 · rfl
 · exact put_n h
 · exact put_n h
 · exact put_n h
 · exact put_n h
 · have h3 := put_n h2; exact h3
def start (w : Wd) (p no : Nat) (d : By) : Option Wd :=
 let r := { w.rq p no with act := true, done := false, st := St.z, data := d }
 if ¬ (r.small ∧ d.length < big ∧ (w.pr p).msgs.length < big ∧ 0 ≤ r.room) then none else
 let e : En := ⟨p, r.ctx, r.tag, ((d.length + r.parts * r.size : Nat) : Int), r.parts⟩
 if r.send = true then (w.setRq p no { r with st := ⟨r.peer, r.tag, e.size, 0⟩ }).send p no e
 else if r.peer = -2 then some (w.setRq p no { r with st := ⟨-2, -1, 0, 0⟩, done := true })
 else match (w.pr p).msgs.findIdx? fun m => r.fits m.en with
  | some i => ((w.setRq p no r).setPr p { w.pr p with msgs := (w.pr p).msgs.eraseIdx i }).mtch p no ((w.pr p).msgs.getD i (.ask e 0))
  | none => if (w.pr p).rcvs.length < big then some ((w.setRq p no r).setPr p { w.pr p with rcvs := (w.pr p).rcvs ++ [no] }) else none
theorem add_n {w w' : Wd} {p : Nat} {r : Rq} (h : w.add p r = some w') : w'.n = w.n := by
 unfold add at h
 split at h
 · cases h; rfl
 · cases h
theorem start_n {w w' : Wd} {p no : Nat} {d : By} (h : w.start p no d = some w') : w'.n = w.n := by
 unfold start at h
 dsimp only at h
 split at h
 · cases h
 · split at h
   · have e := send_n h; exact e
   · split at h
     · cases h; rfl
     · split at h
       · have e := mtch_n h; exact e
       · split at h
         · cases h; rfl
         · cases h
def over (w : Wd) (p no : Nat) : Wd :=
 let w' := w.setRq p no { w.rq p no with act := false }
 if (w.rq p no).pers = true then w' else w'.setPr p { w.pr p with reqs := (w.pr p).reqs.erase (w.rq p no).no }
theorem over_n (w : Wd) (p no : Nat) : (w.over p no).n = w.n := by
 unfold over
 split <;> rfl
theorem over_rq (w : Wd) (p no : Nat) : (w.over p no).rq p no = { w.rq p no with act := false } := by
 unfold over
 split
 · exact setRq_at _ _ _ _
 · exact setRq_at _ _ _ _
def quiet (w : Wd) : Prop := (∀ a b, w.way a b = []) ∧ ∀ p, p < w.n → (w.pr p).inb = []
end Wd
end Go.Mt
namespace Go.Arm
noncomputable section
open Go Go.X
section
variable {P : Program} {h h' : AH} {S : Nat → Prop} {b : Nat} {T : TypeId} {k v : Value}
def Mb (h : AH) (b : Nat) : Prop := ∃ es cl, h.m.get b = some (.map es cl false) ∧ (es.map (·.2.2)).Nodup ∧ ∀ e, e ∈ es → e.2.2 < cl
theorem Mb.sm (H : Mb h b) (s : Sm S h h') (hl : b < h.next) (hb : ¬ S b) : Mb h' b := by
 obtain ⟨es, cl, h1, h2⟩ := H
 exact ⟨es, cl, (s.get b hl hb).trans h1, h2⟩
theorem Mb.new (h : AH) : Mb (h.push (.map [] 0 false)) h.next := ⟨[], 0, push_get _ _, by simp, fun e he => by cases he⟩
theorem setV_age : ∀ (es : List (Value × Value × Nat)) (i : Nat) (k v : Value), (setV es i k v).map (·.2.2) = es.map (·.2.2)
 | [], i, k, v => by unfold setV; cases i <;> rfl
 | e :: es, 0, k, v => by unfold setV; rfl
 | e :: es, i + 1, k, v => by
  have := setV_age es i k v
  unfold setV
  simp only [List.map_cons, this]
theorem Mb.update (H : Mb h b) (hu : aUpdate P T (.map (some b)) k v h = some h') : Mb h' b := by
 obtain ⟨es, cl, h1, h2, h3⟩ := H
 have got : ∀ es cl, (aSetMap h b es cl).m.get b = some (.map es cl false) := fun es cl => by show (h.m.set b _).get b = _; rw [X.T.get_set, if_pos rfl]
 unfold aUpdate at hu
 split at hu
 · rename_i hu2 _
   rename_i hb
   cases hb
   rw [h1] at hu
   dsimp only at hu
   split at hu
   · split at hu
     · rename_i i hi
       split at hu
       · split at hu
         · cases hu
           refine ⟨_, _, got _ _, by rw [setV_age]; exact h2, fun e he => ?_⟩
           have : e.2.2 ∈ (setV es i k v).map (·.2.2) := List.mem_map.2 ⟨e, he, rfl⟩
           rw [setV_age] at this
           obtain ⟨e', he', h5⟩ := List.mem_map.1 this
           rw [← h5]; exact h3 e' he'
         · cases hu
       · cases hu
     · cases hu
       refine ⟨_, _, got _ _, ?_, fun e he => ?_⟩
       · rw [List.map_append, List.nodup_append]
         refine ⟨h2, by simp, fun a ha c hc => ?_⟩
         obtain ⟨e, he, rfl⟩ := List.mem_map.1 ha
         have := h3 e he
         simp only [List.map_cons, List.map_nil, List.mem_singleton] at hc
         omega
       · rcases List.mem_append.1 he with he | he
         · have := h3 e he; omega
         · cases List.mem_singleton.1 he; exact Nat.lt_succ_self _
     · cases hu
   · cases hu
 · cases hu
end
section
variable {P : Program} {h h' : AH} {S : Nat → Prop} {it b c : Nat} {κ β : Type} {kv : κ → Value} {R : Value → β → Prop} {m : List (κ × β)} {dn : Nat → Prop}
theorem Mr.atI {es : List (Value × Value × Nat)} (hr : Mr kv R es m) : ∀ {i : Nat} {e : Value × Value × Nat}, es[i]? = some e → ∃ x, m[i]? = some x ∧ e.1 = kv x.1 ∧ R e.2.1 x.2 := by
 induction hr with
 | nil => intro i e h; simp at h
 | cons hk hv _ ih =>
  intro i e h
  cases i with
  | zero => simp at h; subst h; exact ⟨_, rfl, hk, hv⟩
  | succ i => simp at h; simpa using ih h
def leftOf (es : List (Value × Value × Nat)) (seen : List Nat) : List (Value × Value × Nat) := es.filter fun e => !seen.contains e.2.2
def Itr (h : AH) (it b : Nat) (kv : κ → Value) (R : Value → β → Prop) (m : List (κ × β)) (dn : Nat → Prop) (c : Nat) : Prop :=
 ∃ es cl seen, h.m.get b = some (.map es cl false) ∧ Mr kv R es m ∧ (es.map (·.2.2)).Nodup ∧ (∀ e, e ∈ es → e.2.2 < cl) ∧ h.m.get it = some (.iter (some b) cl seen cl) ∧
  (∀ i e, es[i]? = some e → (e.2.2 ∈ seen ↔ dn i)) ∧ b < h.next ∧ it < h.next ∧ it ≠ b ∧ c = (leftOf es seen).length
theorem Itr.start {T kt el : TypeId} (hT : P.underlying T = some (.map kt el)) (hm : Mp h b kv R m) (hb : Mb h b) :
   ∃ h', aRange P T (.map (some b)) h = some (.pointer (some ⟨h.next, 0, none⟩), h') ∧ (∃ c, Itr h' h.next b kv R m (fun _ => False) c) ∧ Sm Nix h h' ∧ h'.next = h.next + 1 := by
 obtain ⟨hl, es, cl, h1, h2⟩ := hm
 obtain ⟨es', cl', h3, h4, h5⟩ := hb
 rw [h1] at h3
 cases h3
 unfold aRange
 simp only [hT, h1]
 refine ⟨h.push (.iter (some b) cl [] cl), rfl, ⟨_, es, cl, [], ?_, h2, h4, h5, push_get _ _, fun i e _ => ?_, Nat.lt_succ_of_lt hl, Nat.lt_succ_self _, by omega, rfl⟩, .push _ _, rfl⟩
 · exact ((Sm.push h (.iter (some b) cl [] cl)).get b hl (fun x => x)).trans h1
 · simp
theorem filter_lt {α : Type} (p q : α → Bool) (hpq : ∀ x, q x = true → p x = true) : ∀ (l : List α) (a : α), a ∈ l → p a = true → q a = false → (l.filter q).length < (l.filter p).length
 | [], a, h, _, _ => by cases h
 | x :: l, a, h, hp, hq => by
  have le : ∀ l : List α, (l.filter q).length ≤ (l.filter p).length := by
    intro l
    induction l with
    | nil => exact Nat.le_refl _
    | cons y l ih =>
      rw [List.filter_cons, List.filter_cons]
      by_cases hy : q y = true
      · rw [if_pos hy, if_pos (hpq y hy)]; simp; exact ih
      · rw [if_neg hy]; split
        · simp; omega
        · exact ih
  rw [List.filter_cons, List.filter_cons]
  rcases List.mem_cons.1 h with rfl | h
  · rw [if_pos hp, if_neg (by rw [hq]; simp)]
    have := le l; simp; omega
  · have ih := filter_lt p q hpq l a h hp hq
    by_cases hy : q x = true
    · rw [if_pos hy, if_pos (hpq x hy)]; simp; exact ih
    · rw [if_neg hy]; split
      · simp; omega
      · exact ih
theorem find_age : ∀ (es : List (Value × Value × Nat)) (e : Value × Value × Nat), (es.map (·.2.2)).Nodup → e ∈ es → es.find? (fun x => x.2.2 == e.2.2) = some e
 | [], e, _, h => by cases h
 | x :: es, e, hn, h => by
  rw [List.map_cons, List.nodup_cons] at hn
  rw [List.find?_cons]
  rcases List.mem_cons.1 h with rfl | h
  · simp
  · have hne : x.2.2 ≠ e.2.2 := fun h5 => hn.1 (by rw [h5]; exact List.mem_map.2 ⟨e, h, rfl⟩)
    have : (x.2.2 == e.2.2) = false := by simpa using hne
    rw [this]
    exact find_age es e hn.2 h
theorem Itr.next (H : Itr h it b kv R m dn c) : ∃ l, aNext (.pointer (some ⟨it, 0, none⟩)) false h = some l ∧ ∀ p, p ∈ l →
   (p = (.tuple ⟨[.bool false]⟩, h) ∧ ∀ i, i < m.length → dn i) ∨
   ∃ i x v c', m[i]? = some x ∧ ¬ dn i ∧ R v x.2 ∧ p.1 = .tuple ⟨[.bool true, kv x.1, v]⟩ ∧ c' < c ∧ Itr p.2 it b kv R m (fun j => j = i ∨ dn j) c' ∧ Sm (fun x => x = it) h p.2 ∧ p.2.next = h.next ∧ aEntryIt (.pointer (some ⟨it, 0, none⟩)) p.2 = some (.tuple ⟨[kv x.1, v]⟩) := by
 obtain ⟨es, cl, seen, h1, h2, h3, h4, h5, h6, h7, h8, h9, hc⟩ := H
 unfold aNext
 simp only [h5, h1]
 have hno : (!seen.isEmpty && !es.isEmpty && es.all fun e => decide (e.2.2 ≥ cl)) = false := by
   cases es with
   | nil => simp
   | cons e es =>
     have := h4 e (by simp)
     have : ¬ e.2.2 ≥ cl := by omega
     simp [this]
 rw [hno]
 refine ⟨_, rfl, fun p hp => ?_⟩
 unfold nextOuts at hp
 have hold : (es.filter fun e => !seen.contains e.2.2).filter (fun e => decide (e.2.2 < cl)) = es.filter fun e => !seen.contains e.2.2 := by
   refine List.filter_eq_self.2 fun e he => ?_
   simpa using h4 e (List.mem_filter.1 he).1
 have hnew : (es.filter fun e => !seen.contains e.2.2).filter (fun e => !decide (e.2.2 < cl)) = [] := by
   refine List.filter_eq_nil_iff.2 fun e he => ?_
   simpa using h4 e (List.mem_filter.1 he).1
 dsimp only at hp
 rw [hold, hnew, List.append_nil] at hp
 rcases List.mem_append.1 hp with hp | hp
 · split at hp
   · rename_i he
     cases List.mem_singleton.1 hp
     refine .inl ⟨rfl, fun i hi => ?_⟩
     rw [← h2.length] at hi
     have hg : es[i]? = some es[i] := List.getElem?_eq_getElem hi
     refine (h6 i _ hg).1 ?_
     rw [List.isEmpty_iff, List.filter_eq_nil_iff] at he
     have := he es[i] (List.getElem_mem hi)
     simpa using this
   · cases hp
 · obtain ⟨e, he, rfl⟩ := List.mem_map.1 hp
   obtain ⟨he1, he2⟩ := List.mem_filter.1 he
   obtain ⟨i, hi, hie⟩ := List.getElem_of_mem he1
   have hg : es[i]? = some e := by rw [List.getElem?_eq_getElem hi, hie]
   obtain ⟨x, hx, hk, hv⟩ := h2.atI hg
   have hns : ¬ e.2.2 ∈ seen := by simpa using he2
   refine .inr ⟨i, x, e.2.1, _, hx, fun hd => hns ((h6 i e hg).2 hd), hv, by rw [hk], ?_, ⟨es, cl, seen ++ [e.2.2], ?_, h2, h3, h4, ?_, fun j e' hj => ?_, h7, h8, h9, rfl⟩, ⟨Nat.le_refl _, fun y _ hn => ?_⟩, rfl, ?_⟩
   · rw [hc]
     refine filter_lt _ _ (fun y hy => ?_) es e he1 he2 (by simp)
     simp at hy ⊢
     exact hy.1
   · show (h.m.set it _).get b = _
     rw [X.T.get_set, if_neg (fun e => h9 e.symm)]; exact h1
   · show (h.m.set it _).get it = _
     rw [X.T.get_set, if_pos rfl]
   · rw [List.mem_append, List.mem_singleton, h6 j e' hj]
     constructor
     · rintro (h | h)
       · exact .inr h
       · refine .inl ?_
         have hjl := (List.getElem?_eq_some_iff.1 hj).1
         have h10 : (es.map (·.2.2))[j]'(by simpa using hjl) = (es.map (·.2.2))[i]'(by simpa using hi) := by
          rw [List.getElem_map, List.getElem_map, hie, (List.getElem?_eq_some_iff.1 hj).2]; exact h
         exact (List.getElem_inj h3).1 h10
     · rintro (rfl | h)
       · rw [hg] at hj; cases hj; exact .inr rfl
       · exact .inl h
   · show (h.m.set it _).get y = _
     rw [X.T.get_set, if_neg hn]
   · have g1 : ({ h with m := h.m.set it (some (.iter (some b) cl (seen ++ [e.2.2]) cl)) } : AH).m.get it = some (.iter (some b) cl (seen ++ [e.2.2]) cl) := by
       show (h.m.set it _).get it = _
       rw [X.T.get_set, if_pos rfl]
     have g2 : ({ h with m := h.m.set it (some (.iter (some b) cl (seen ++ [e.2.2]) cl)) } : AH).m.get b = some (.map es cl false) := by
       show (h.m.set it _).get b = _
       rw [X.T.get_set, if_neg (fun e => h9 e.symm)]; exact h1
     unfold aEntryIt
     dsimp only
     simp only [g1, g2, List.getLast?_append, List.getLast?_singleton, Option.some_or, if_true, find_age es e h3 he1]
     rw [hk]
end
section
variable {P : Program} [Kn P] {n : Nat} {ops : Array Oper} {Q : Post} {o : Oper} {rest : List Oper} {f : Fr} {h : AH} {it b c : Nat} {κ β : Type} {kv : κ → Value} {R : Value → β → Prop} {m : List (κ × β)} {dn : Nat → Prop}
theorem L_rg {T : TypeId} {x : Operand} {a v : Value} (h' : AH) (ho : o.op = .range T x) (hs : okO n o = true) (ha : ev n f x = some a) (hv : aRange P T a h = some (v, h'))
  (k : L P n ops Q rest (updO f o.dst v) h') : L P n ops Q (o :: rest) f h :=
 L_dov (okO_ok hs).1 (okO_ok hs).2 (by rw [ho]; rfl) (by rw [ho]; simp only [evAct, ha, hv]; rfl) k
theorem L_nx {x : Operand} (ho : o.op = .next x false) (hs : okO n o = true) (ha : ev n f x = some (.pointer (some ⟨it, 0, none⟩))) (H : Itr h it b kv R m dn c)
   (k0 : (∀ i, i < m.length → dn i) → L P n ops Q rest (updO f o.dst (.tuple ⟨[.bool false]⟩)) h)
   (k1 : ∀ i x v c' h', m[i]? = some x → ¬ dn i → R v x.2 → c' < c → Itr h' it b kv R m (fun j => j = i ∨ dn j) c' → Sm (fun x => x = it) h h' → h'.next = h.next → aEntryIt (.pointer (some ⟨it, 0, none⟩)) h' = some (.tuple ⟨[kv x.1, v]⟩) → L P n ops Q rest (updO f o.dst (.tuple ⟨[.bool true, kv x.1, v]⟩)) h') :
   L P n ops Q (o :: rest) f h := by
 obtain ⟨l, hl, hp⟩ := H.next
 refine L_any (l := l.map fun p => (.val p.1, p.2)) (okO_ok hs).1 (okO_ok hs).2 (by rw [ho]; rfl) (by rw [ho]; simp only [evAct, ha, hl]; rfl) fun p hm => ?_
 obtain ⟨q, hq, rfl⟩ := List.mem_map.1 hm
 refine ⟨_, rfl, ?_⟩
 rcases hp q hq with ⟨rfl, h1⟩ | ⟨i, x, v, c', h1, h2, h3, h4, h5, h6, h7, h8, h10⟩
 · exact k0 h1
 · dsimp only
   rw [h4]
   exact k1 i x v c' q.2 h1 h2 h3 h5 h6 h7 h8 h10
end
end
end Go.Arm
namespace Go.Arm
noncomputable section
open Go Go.X
abbrev ptr (b : Nat) : Value := .pointer (some ⟨b, 0, none⟩)
def k2 (w : Int × Int) : Value := .agg ⟨[nv w.1, nv w.2]⟩
def vbx : Value → Option Nat
 | .pointer (some a) => some a.block
 | .map (some b) => some b
 | .slice (some a) _ _ => some a.block
 | _ => none
theorem vbx_sl {v : Value} {b : Nat} (hs : ∃ a n c, v = .slice a n c) (h : vbx v = some b) : vb v = some b := by
 obtain ⟨a, n, c, rfl⟩ := hs
 cases a with
 | none => cases h
 | some a => exact h
theorem vb_vbx {v : Value} {b : Nat} (h : vb v = some b) : vbx v = some b := by
 unfold vb at h
 split at h
 · exact h
 · cases h
inductive Th
 | no
 | cl (l : List Value)
 | sd (k n : Nat) (cs : List Value)
 | gr (k n : Nat) (cs : List Value)
 | ws (n : Nat) (cs : List Value)
 | mi (m : List (Int × Value))
 | mp (m : List ((Int × Int) × Value))
def nk (x : Nat) : Value := nv (x : Int)
def At (h : AH) (v : Value) : Th → Prop
 | .no => True
 | .cl l => ∃ b, v = ptr b ∧ Cl h b l
 | .sd k n cs => Sd h k v n cs
 | .gr k n cs => Gr h k v n cs
 | .ws n cs => Ws h 1 v n cs
 | .mi m => ∃ b, v = .map (some b) ∧ Mp h b nv Eq m ∧ Mb h b
 | .mp m => ∃ b, v = .map (some b) ∧ Mp h b k2 Eq m ∧ Mb h b
section
variable {h h' : AH} {S : Nat → Prop} {v : Value} {k n : Nat} {cs : List Value}
theorem Sd.smx (hs : Sd h k v n cs) (s : Sm S h h') (hb : ∀ b, vbx v = some b → ¬ S b) : Sd h' k v n cs := hs.sm s fun b x => hb b (vb_vbx x)
theorem Ws.smx (hs : Ws h k v n cs) (s : Sm S h h') (hb : ∀ b, vbx v = some b → ¬ S b) : Ws h' k v n cs := hs.sm s fun b x => hb b (vb_vbx x)
theorem Gr.smx (hs : Gr h k v n cs) (s : Sm S h h') (hb : ∀ b, vbx v = some b → ¬ S b) : Gr h' k v n cs := hs.sm s fun b x => hb b (vb_vbx x)
theorem At.sm {x : Th} (A : At h v x) (s : Sm S h h') (hb : ∀ b, vbx v = some b → ¬ S b) : At h' v x := by
 cases x with
 | no => trivial
 | cl l => obtain ⟨b, rfl, c⟩ := A; exact ⟨b, rfl, c.sm s (hb b rfl)⟩
 | sd k n cs => exact Sd.smx A s hb
 | gr k n cs => exact Gr.smx A s hb
 | ws n cs => exact Ws.smx A s hb
 | mi m => obtain ⟨b, rfl, c, d⟩ := A; exact ⟨b, rfl, c.sm s (hb b rfl) (fun _ _ e => e), d.sm s c.1 (hb b rfl)⟩
 | mp m => obtain ⟨b, rfl, c, d⟩ := A; exact ⟨b, rfl, c.sm s (hb b rfl) (fun _ _ e => e), d.sm s c.1 (hb b rfl)⟩
theorem Sd.ltx (hs : Sd h k v n cs) {b : Nat} (hb : vbx v = some b) : b < h.next := hs.lt (vbx_sl (by obtain ⟨a, c, e⟩ := hs.form; exact ⟨a, n, c, e⟩) hb)
theorem At.lt {x : Th} (A : At h v x) (hx : x ≠ .no) {b : Nat} (hb : vbx v = some b) : b < h.next := by
 cases x with
 | no => exact (hx rfl).elim
 | cl l => obtain ⟨b', rfl, c⟩ := A; cases hb; exact c.lt
 | sd k n cs => exact Sd.ltx A hb
 | gr k n cs => exact Sd.ltx (Gr.sd A) hb
 | ws n cs => exact Sd.ltx (Ws.sd A) hb
 | mi m => obtain ⟨b', rfl, c, d⟩ := A; cases hb; exact c.1
 | mp m => obtain ⟨b', rfl, c, d⟩ := A; cases hb; exact c.1
end
end
end Go.Arm
namespace Go.Arm
noncomputable section
open Go Go.X Go.Mt
inductive Ro
 | wd
 | prs
 | ways
 | way (a b : Int)
 | pr (p : Nat)
 | rqs (p : Nat)
 | exs (p : Nat)
 | inb (p : Nat)
 | msg (p : Nat)
 | rcv (p : Nat)
 | crd (p : Nat)
 | rq (p no : Nat)
 | pcs (p no : Nat)
 | snt (p no : Nat)
deriving DecidableEq
structure Gh where
 B : Ro → Nat
 S : Ro → Value
 C : Ro → Th
 ro : Nat → Prop
def Gh.V (G : Gh) : Ro → Value
 | .wd => ptr (G.B .wd)
 | .ways => .map (some (G.B .ways))
 | .pr p => ptr (G.B (.pr p))
 | .rqs p => .map (some (G.B (.rqs p)))
 | .exs p => .map (some (G.B (.exs p)))
 | .rq p no => ptr (G.B (.rq p no))
 | r => G.S r
def Gh.mut (G : Gh) (b : Nat) : Prop := ∃ r, G.C r ≠ .no ∧ vbx (G.V r) = some b
structure Op (G : Gh) (h : AH) : Prop where
 here : ∀ r, At h (G.V r) (G.C r)
 inj : ∀ r r' b, G.C r ≠ .no → G.C r' ≠ .no → vbx (G.V r) = some b → vbx (G.V r') = some b → r = r'
 ro : ∀ b, G.mut b → ¬ G.ro b
 rolt : ∀ b, G.ro b → b < h.next
structure Gx (G : Gh) (h : AH) (G' : Gh) (h' : AH) : Prop where
 sm : Sm G.mut h h'
 mu : ∀ b, G'.mut b → G.mut b ∨ h.next ≤ b
 ron : ∀ b, G'.ro b → G.ro b ∨ h.next ≤ b
 rok : ∀ b, G.ro b → G'.ro b
 keep : ∀ r, G.C r ≠ .no → G'.C r ≠ .no ∧ G'.B r = G.B r
 prs : G'.S .prs = G.S .prs
 fix : ∀ p no, G.C (.rq p no) ≠ .no → G'.S (.pcs p no) = G.S (.pcs p no) ∧ G'.S (.snt p no) = G.S (.snt p no)
section
variable {G G' G'' : Gh} {h h' h'' : AH} {S : Nat → Prop} {r : Ro}
theorem Op.lt (O : Op G h) {b : Nat} (hb : G.mut b) : b < h.next := by
 obtain ⟨r, h1, h2⟩ := hb
 exact (O.here r).lt h1 h2
theorem Op.new (O : Op G h) {b : Nat} (hb : h.next ≤ b) : ¬ G.mut b := fun hm => by have := O.lt hm; omega
theorem Op.newr (O : Op G h) {b : Nat} (hb : h.next ≤ b) : ¬ G.ro b := fun hm => by have := O.rolt b hm; omega
theorem Op.sm (O : Op G h) (s : Sm S h h') (hS : ∀ b, S b → ¬ G.mut b) : Op G h' :=
 ⟨fun r => by
  by_cases e : G.C r = .no
  · rw [e]; trivial
  · exact (O.here r).sm s (fun b hb hs => hS b hs ⟨r, e, hb⟩), O.inj, O.ro, fun b hb => Nat.lt_of_lt_of_le (O.rolt b hb) s.nx⟩
theorem Op.ext (O : Op G h) (s : Sm Nix h h') : Op G h' := O.sm s (fun _ x => x.elim)
theorem Gx.refl : Gx G h G h := ⟨.refl, fun _ x => .inl x, fun _ x => .inl x, fun _ x => x, fun _ x => ⟨x, rfl⟩, rfl, fun _ _ _ => ⟨rfl, rfl⟩⟩
theorem Gx.trans (X : Gx G h G' h') (Y : Gx G' h' G'' h'') : Gx G h G'' h'' :=
 ⟨X.sm.trans Y.sm X.mu, fun b hb => (Y.mu b hb).elim (X.mu b) (fun x => .inr (Nat.le_trans X.sm.nx x)), fun b hb => (Y.ron b hb).elim (X.ron b) (fun x => .inr (Nat.le_trans X.sm.nx x)), fun b hb => Y.rok b (X.rok b hb),
  fun r hr => ⟨(Y.keep r (X.keep r hr).1).1, ((Y.keep r (X.keep r hr).1).2).trans (X.keep r hr).2⟩, Y.prs.trans X.prs, fun p no hr => ⟨(Y.fix p no (X.keep _ hr).1).1.trans (X.fix p no hr).1, (Y.fix p no (X.keep _ hr).1).2.trans (X.fix p no hr).2⟩⟩
theorem Gx.ext (X : Gx G h G' h') (s : Sm Nix h' h'') : Gx G h G' h'' := ⟨X.sm.ext s, X.mu, X.ron, X.rok, X.keep, X.prs, X.fix⟩
theorem Gx.of (s : Sm Nix h h') : Gx G h G h' := ⟨s.of, fun _ x => .inl x, fun _ x => .inl x, fun _ x => x, fun _ x => ⟨x, rfl⟩, rfl, fun _ _ _ => ⟨rfl, rfl⟩⟩
def Gh.put (G : Gh) (r : Ro) (b : Nat) (v : Value) (x : Th) : Gh := ⟨ups G.B r b, ups G.S r v, ups G.C r x, G.ro⟩
theorem V_put {b : Nat} {v : Value} {x : Th} {r' : Ro} (hr : r' ≠ r) : (G.put r b v x).V r' = G.V r' := by
 cases r' <;> simp [Gh.V, Gh.put, ups_ne _ _ hr]
theorem C_put {b : Nat} {v : Value} {x : Th} {r' : Ro} (hr : r' ≠ r) : (G.put r b v x).C r' = G.C r' := ups_ne _ _ hr
theorem C_at {b : Nat} {v : Value} {x : Th} : (G.put r b v x).C r = x := ups_at _ _ _
theorem Op.put (O : Op G h) (r : Ro) {b : Nat} {v : Value} {x : Th} (hx : x ≠ .no) (s : Sm S h h') (hS : ∀ c, S c → (G.C r ≠ .no ∧ vbx (G.V r) = some c) ∨ h.next ≤ c)
   (A : At h' ((G.put r b v x).V r) x) (hv : ∀ c, vbx ((G.put r b v x).V r) = some c → (G.C r ≠ .no ∧ vbx (G.V r) = some c) ∨ h.next ≤ c)
   (hk : G.C r ≠ .no → b = G.B r) (hp : r = .prs → v = G.S .prs) (hf : ∀ p no, r = .pcs p no ∨ r = .snt p no → G.C (.rq p no) ≠ .no → v = G.S r) : Op (G.put r b v x) h' ∧ Gx G h (G.put r b v x) h' := by
 have hother : ∀ r', r' ≠ r → ∀ c, G.C r' ≠ .no → vbx (G.V r') = some c → ¬ S c := fun r' hr c hc hb hs => by
   rcases hS c hs with ⟨e1, e2⟩ | e
   · exact hr (O.inj _ _ _ hc e1 hb e2)
   · exact O.new e ⟨r', hc, hb⟩
 have hmu : ∀ c, (G.put r b v x).mut c → G.mut c ∨ h.next ≤ c := by
   rintro c ⟨r', h1, h2⟩
   by_cases e : r' = r
   · subst e
     exact (hv c h2).imp (fun y => ⟨_, y.1, y.2⟩) id
   · rw [C_put e] at h1; rw [V_put e] at h2; exact .inl ⟨r', h1, h2⟩
 refine ⟨⟨fun r' => ?_, fun r' r'' c h1 h2 h3 h4 => ?_, fun c hc hr => ?_, fun c hc => ?_⟩, ⟨⟨s.nx, fun c hc hn => s.get c hc fun hs => ?_⟩, hmu, fun c hc => .inl hc, fun c hc => hc, fun r' hr => ?_, ?_, fun p no hr => ?_⟩⟩
 · by_cases e : r' = r
   · subst e; rw [C_at]; exact A
   · rw [V_put e, C_put e]
     by_cases e2 : G.C r' = .no
     · rw [e2]; trivial
     · exact (O.here r').sm s (fun c hb => hother r' e c e2 hb)
 · by_cases e : r' = r
   · by_cases e2 : r'' = r
     · rw [e, e2]
     · subst e
       rw [C_put e2] at h2; rw [V_put e2] at h4
       rcases hv c h3 with ⟨q1, q2⟩ | q
       · exact O.inj _ _ _ q1 h2 q2 h4
       · exact (O.new q ⟨_, h2, h4⟩).elim
   · rw [C_put e] at h1; rw [V_put e] at h3
     by_cases e2 : r'' = r
     · subst e2
       rcases hv c h4 with ⟨q1, q2⟩ | q
       · exact O.inj _ _ _ h1 q1 h3 q2
       · exact (O.new q ⟨_, h1, h3⟩).elim
     · rw [C_put e2] at h2; rw [V_put e2] at h4
       exact O.inj _ _ _ h1 h2 h3 h4
 · rcases hmu c hc with q | q
   · exact O.ro c q hr
   · exact O.newr q hr
 · exact Nat.lt_of_lt_of_le (O.rolt c hc) s.nx
 · rcases hS c hs with q | q
   · exact hn ⟨r, q.1, q.2⟩
   · omega
 · by_cases e : r' = r
   · subst e
     refine ⟨by rw [C_at]; exact hx, ?_⟩
     show ups G.B r' b r' = _
     rw [ups_at]; exact hk hr
   · refine ⟨by rw [C_put e]; exact hr, ?_⟩
     show ups G.B r b r' = _
     rw [ups_ne _ _ e]
 · show ups G.S r v .prs = _
   by_cases e : Ro.prs = r
   · subst e; rw [ups_at]; exact hp rfl
   · rw [ups_ne _ _ e]
 · have key : ∀ r', r' = .pcs p no ∨ r' = .snt p no → ups G.S r v r' = G.S r' := fun r' h1 => by
     by_cases e : r' = r
     · subst e; rw [ups_at]; exact hf p no h1 hr
     · rw [ups_ne _ _ e]
   exact ⟨key _ (.inl rfl), key _ (.inr rfl)⟩
def Gh.putC (G : Gh) (r : Ro) (x : Th) : Gh := ⟨G.B, G.S, ups G.C r x, G.ro⟩
def Gh.putS (G : Gh) (r : Ro) (v : Value) (x : Th) : Gh := ⟨G.B, ups G.S r v, ups G.C r x, G.ro⟩
def Gh.putB (G : Gh) (r : Ro) (b : Nat) (x : Th) : Gh := ⟨ups G.B r b, G.S, ups G.C r x, G.ro⟩
theorem put_C (x : Th) : G.put r (G.B r) (G.S r) x = G.putC r x := by unfold Gh.put Gh.putC; rw [ups_id, ups_id]
theorem put_S (v : Value) (x : Th) : G.put r (G.B r) v x = G.putS r v x := by unfold Gh.put Gh.putS; rw [ups_id]
theorem put_B (b : Nat) (x : Th) : G.put r b (G.S r) x = G.putB r b x := by unfold Gh.put Gh.putB; rw [ups_id]
theorem V_putC {x : Th} {r' : Ro} : (G.putC r x).V r' = G.V r' := by cases r' <;> rfl
theorem Op.putC (O : Op G h) (r : Ro) {x : Th} (hx : x ≠ .no) (h0 : G.C r ≠ .no) (s : Sm S h h') (hS : ∀ c, S c → vbx (G.V r) = some c) (A : At h' (G.V r) x) : Op (G.putC r x) h' ∧ Gx G h (G.putC r x) h' := by
 have := O.put r (b := G.B r) (v := G.S r) (x := x) hx s (fun c hc => .inl ⟨h0, hS c hc⟩) (by rw [put_C, V_putC]; exact A) (fun c hc => by rw [put_C, V_putC] at hc; exact .inl ⟨h0, hc⟩) (fun _ => rfl) (fun e => by rw [e]) (fun _ _ _ _ => rfl)
 rw [put_C] at this
 exact this
theorem Op.putS (O : Op G h) (r : Ro) (v : Value) {x : Th} (hx : x ≠ .no) (h0 : G.C r ≠ .no) (hV : ∀ G : Gh, G.V r = G.S r) (hr : r ≠ .prs) (s : Sm S h h') (hS : ∀ c, S c → vbx (G.S r) = some c ∨ h.next ≤ c) (A : At h' v x) (hv : ∀ c, vbx v = some c → vbx (G.S r) = some c ∨ h.next ≤ c) (hps : ∀ p no, r ≠ .pcs p no ∧ r ≠ .snt p no := by exact fun p no => ⟨(fun e => by cases e), (fun e => by cases e)⟩) : Op (G.putS r v x) h' ∧ Gx G h (G.putS r v x) h' := by
 have e : (G.putS r v x).V r = v := by rw [hV]; exact ups_at _ _ _
 have := O.put r (b := G.B r) (v := v) (x := x) hx s (fun c hc => (hS c hc).imp (fun y => ⟨h0, by rw [hV]; exact y⟩) id) (by rw [put_S, e]; exact A) (fun c hc => by rw [put_S, e] at hc; exact (hv c hc).imp (fun y => ⟨h0, by rw [hV]; exact y⟩) id) (fun _ => rfl) (fun e => (hr e).elim) (fun p no h1 => h1.elim (fun e => ((hps p no).1 e).elim) (fun e => ((hps p no).2 e).elim))
 rw [put_S] at this
 exact this
def Gh.more (G : Gh) (Q : Nat → Prop) : Gh := ⟨G.B, G.S, G.C, fun b => G.ro b ∨ Q b⟩
theorem V_more {Q : Nat → Prop} (r : Ro) : (G.more Q).V r = G.V r := by cases r <;> rfl
theorem Op.more (O : Op G h) {Q : Nat → Prop} (s : Sm Nix h h') (h1 : ∀ b, Q b → h.next ≤ b) (h2 : ∀ b, Q b → b < h'.next) : Op (G.more Q) h' ∧ Gx G h (G.more Q) h' := by
 have O' := O.ext s
 refine ⟨⟨fun r => by rw [V_more]; exact O'.here r, fun r r' b a1 a2 a3 a4 => O.inj r r' b a1 a2 (by rw [V_more] at a3; exact a3) (by rw [V_more] at a4; exact a4), fun b hb hr => ?_, fun b hb => hb.elim (O'.rolt b) (h2 b)⟩,
   ⟨s.of, fun b hb => .inl ?_, fun b hb => hb.imp id (h1 b), fun b hb => .inl hb, fun r hr => ⟨hr, rfl⟩, rfl, fun _ _ _ => ⟨rfl, rfl⟩⟩⟩
 · obtain ⟨r, q1, q2⟩ := hb
   rw [V_more] at q2
   rcases hr with hr | hr
   · exact O.ro b ⟨r, q1, q2⟩ hr
   · exact O.new (h1 b hr) ⟨r, q1, q2⟩
 · obtain ⟨r, q1, q2⟩ := hb
   rw [V_more] at q2
   exact ⟨r, q1, q2⟩
end
end
end Go.Arm
namespace Go.Arm
noncomputable section
open Go Go.X
def Rb (h : AH) (v : Value) (cs : List Value) : Prop :=
 (cs = [] ∧ ∃ a c, v = .slice a 0 c ∧ (a = none → c = 0) ∧ ∀ q, a = some q → q.block < h.next) ∨
  ∃ b o c, cs ≠ [] ∧ c ≠ 0 ∧ v = .slice (some ⟨b, o, none⟩) cs.length c ∧ b < h.next ∧ ∀ j, j < cs.length → h.cell ⟨b, o + j, none⟩ = cs[j]?
def Cut (h : AH) (v : Value) (n : Nat) : Prop := n = 0 ∨ ∃ b o nn, v = .slice (some ⟨b, o, none⟩) n open_ ∧ b < h.next ∧ X.opOf h b = some (nn, 1) ∧ o + n ≤ nn
section
variable {P : Program} {h h' : AH} {S : Nat → Prop} {v : Value} {cs : List Value} {n : Nat} {T el : TypeId}
theorem cell_sm (s : Sm S h h') {b o : Nat} (hl : b < h.next) (hb : ¬ S b) : h'.cell ⟨b, o, none⟩ = h.cell ⟨b, o, none⟩ := by
 unfold AH.cell
 simp only [s.get b hl hb]
theorem Rb.sm (H : Rb h v cs) (s : Sm S h h') (hb : ∀ b, vb v = some b → ¬ S b) : Rb h' v cs := by
 rcases H with ⟨h0, a, c, e, h1, h2⟩ | ⟨b, o, c, h0, h1, rfl, h2, h3⟩
 · exact .inl ⟨h0, a, c, e, h1, fun q hq => Nat.lt_of_lt_of_le (h2 q hq) s.nx⟩
 · exact .inr ⟨b, o, c, h0, h1, rfl, Nat.lt_of_lt_of_le h2 s.nx, fun j hj => by rw [cell_sm s h2 (hb b rfl)]; exact h3 j hj⟩
theorem Rb.ext (H : Rb h v cs) (s : Sm Nix h h') : Rb h' v cs := H.sm s fun _ _ x => x
theorem Rb.nil : Rb h (.slice none 0 0) [] := .inl ⟨rfl, none, 0, rfl, fun _ => rfl, fun q hq => by cases hq⟩
theorem Rb.form (H : Rb h v cs) : ∃ a c, v = .slice a cs.length c := by
 rcases H with ⟨h0, a, c, e, h1, h2⟩ | ⟨b, o, c, h0, h1, rfl, h2, h3⟩
 · subst h0; exact ⟨a, c, e⟩
 · exact ⟨_, c, rfl⟩
theorem Rb.lt (H : Rb h v cs) {b : Nat} (hb : vb v = some b) : b < h.next := by
 rcases H with ⟨h0, a, c, rfl, h1, h2⟩ | ⟨b', o, c, h0, h1, rfl, h2, h3⟩
 · cases a with
   | none => cases hb
   | some q => cases hb; exact h2 q rfl
 · cases hb; exact h2
theorem Rb.len (H : Rb h v cs) (hT : P.underlying T = some (.slice el)) : aLen P T v h = some (.int .i64 cs.length) := by
 obtain ⟨a, c, rfl⟩ := H.form
 unfold aLen
 simp only [hT]
theorem Rb.lenA (H : Rb h v cs) (hT : P.underlying T = some (.slice el)) (h' : AH) : aLen P T v h' = some (.int .i64 cs.length) := by
 obtain ⟨a, c, rfl⟩ := H.form
 unfold aLen
 simp only [hT]
theorem cells_r {b o : Nat} : ∀ (l : List Value) (i : Nat), (∀ j, j < l.length → h.cell ⟨b, o + (i + j), none⟩ = l[j]?) → h.cells ⟨b, o, none⟩ i l.length = some l
 | [], i, _ => rfl
 | x :: l, i, hl => by
  have ih := cells_r l (i + 1) (fun j hj => by
   have := hl (j + 1) (by simpa using hj)
   rw [show i + 1 + j = i + (j + 1) by omega]
   simpa using this)
  have h0 : h.cell ⟨b, o + i, none⟩ = some x := hl 0 (by simp)
  show h.cells ⟨b, o, none⟩ i (l.length + 1) = _
  unfold AH.cells
  dsimp only
  rw [h0, ih]
theorem Rb.first (H : Rb h v cs) : aFirst 1 cs.length v h = some cs := by
 rcases H with ⟨h0, a, c, rfl, h1, h2⟩ | ⟨b, o, c, h0, h1, rfl, h2, h3⟩
 · subst h0
   cases a with
   | none => rfl
   | some q => simp [aFirst]
 · unfold aFirst
   dsimp only
   have hp : 0 < cs.length := List.length_pos_iff.2 h0
   rw [if_neg (by omega), if_neg (by omega), Nat.mul_one]
   exact cells_r cs 0 (fun j hj => by rw [Nat.zero_add]; exact h3 j hj)
theorem Sd.rb (H : Sd h 1 v n cs) : Rb h v cs := by
 have hn : cs.length = n := by have := H.1; omega
 rcases H.2 with ⟨h0, a, c, rfl, h1, h2⟩ | ⟨b, o, c, cc, nn, op, ro, h0, h1, rfl, h2, h3, h4, h5⟩
 · exact .inl ⟨List.length_eq_zero_iff.1 (by omega), a, c, rfl, h1, h2⟩
 · refine .inr ⟨b, o, c, fun e => by subst e; simp at hn; omega, h1, by rw [hn], h2, fun j hj => ?_⟩
   unfold AH.cell
   simp only [h3]
   rw [if_pos (by omega)]; exact h5 j hj
theorem app_bytes {sT xT : TypeId} {by_ : Nat} {z u : Value} {a : Addr} (hT : P.underlying sT = some (.slice el)) (hx : newsK P xT = .list) (hs : szOf P el = some 1) (hb : byOf P el = some by_) (hz : zeroOf P el = some z) (hzl : (cellsL z).length = 1) (hu8 : isU8 P el = some el)
   (hu : Rb h u cs) (h1 : ∀ x, x ∈ cs → x.oneCell' = true) (hlim : cs.length * (by_ + 1) < 1099511627776) (ha : a.block < h.next) :
   ∃ v' h', aAppend P sT xT (.slice (some a) 0 0) u h = some (v', h') ∧ Rb h' v' cs ∧ Cut h' v' cs.length ∧ Sm Nix h h' ∧ (∀ b, vb v' = some b → b = a.block ∨ b = h.next) ∧ (∃ a n c, v' = .slice (some a) n c) ∧ ∀ b, vb v' = some b → b < h'.next := by
 have hf := hu.first
 obtain ⟨ua, uc, rfl⟩ := hu.form
 by_cases h0 : cs = []
 · subst h0
   refine ⟨.slice (some a) 0 0, h, ?_, .inl ⟨rfl, _, _, rfl, (fun e => by cases e), fun q hq => by cases hq; exact ha⟩, .inl rfl, .refl, fun b hb => by cases hb; exact .inl rfl, ⟨_, _, _, rfl⟩, fun b hb => by cases hb; exact ha⟩
   unfold aAppend
   simp only [hT, hs, hb, hz]
   unfold aNews
   have hlen : X.lenV (.slice ua ([] : List Value).length uc) = some 0 := rfl
   have hf : aFirst 1 0 (.slice ua ([] : List Value).length uc) h = some [] := hf
   simp only [hx, hlen, hf]
   have hl0 : X.lenV (.slice (some a) 0 0) = some 0 := rfl
   simp only [hl0]
   rw [if_pos ⟨hzl, rfl, rfl, by omega⟩]
   unfold aAppendTo
   dsimp only
   rw [if_neg (show ¬ (0 : Nat) = open_ by decide), if_pos (by omega), if_pos rfl]
 · have hp : 0 < cs.length := List.length_pos_iff.2 h0
   refine ⟨.slice (some ⟨h.next, 0, none⟩) cs.length open_, ⟨h.m.set h.next (some (.tcells el (T.fill cs 0 .e) cs.length 1)), h.next + 1⟩, ?_, .inr ⟨h.next, 0, open_, h0, open_ne, rfl, Nat.lt_succ_self _, fun j hj => ?_⟩, .inr ⟨h.next, 0, cs.length, rfl, Nat.lt_succ_self _, ?_, by omega⟩, ⟨Nat.le_succ _, fun k hk _ => ?_⟩,
     fun b hb => by cases hb; exact .inr rfl, ⟨_, _, _, rfl⟩, fun b hb => by cases hb; exact Nat.lt_succ_self _⟩
   · unfold aAppend
     simp only [hT, hs, hb, hz]
     unfold aNews
     have hlen : X.lenV (.slice ua cs.length uc) = some cs.length := rfl
     simp only [hx, hlen, hf]
     have hl0 : X.lenV (.slice (some a) 0 0) = some 0 := rfl
     simp only [hl0]
     rw [if_pos ⟨hzl, by omega, by rw [List.all_eq_true]; exact h1, by rw [Nat.zero_add]; exact hlim⟩]
     unfold aAppendTo
     dsimp only
     rw [if_neg (show ¬ (0 : Nat) = open_ by decide), if_neg (by omega), if_pos rfl]
     unfold AH.newo
     rw [hu8]
     simp [mkO]
   · unfold AH.cell
     dsimp only
     rw [X.T.get_set, if_pos rfl]
     dsimp only
     rw [if_pos (by omega), X.T.get_fill, if_pos (by omega)]; simp
   · unfold X.opOf
     dsimp only
     rw [X.T.get_set, if_pos rfl]
   · show (h.m.set h.next _).get k = _
     rw [X.T.get_set, if_neg (by omega)]
theorem Rb.cut (H : Rb h v cs) (t : Cut h v cs.length) (hT : P.underlying T = some (.slice el)) (hk : szOf P el = some 1) {m : Nat} (hm : m < cs.length) (kd : IntKind) :
   ∃ v', (∀ h' : AH, (∀ b, vb v = some b → h'.m.get b = h.m.get b) → aSl P T v none (some (.int kd (m : Nat))) none h' = some v') ∧ Rb h v' (cs.take m) ∧ Cut h v' (cs.take m).length ∧ vb v' = vb v := by
 rcases t with h0 | ⟨b, o, nn, rfl, h2, h3, h4⟩
 · omega
 · rcases H with ⟨h0, _⟩ | ⟨b', o', c, h0, h1, e, h5, h6⟩
   · subst h0; simp at hm
   · cases e
     have hlm : (cs.take m).length = m := by rw [List.length_take]; omega
     refine ⟨.slice (some ⟨b, o, none⟩) m open_, ?_, ?_, ?_, rfl⟩
     · intro h' hg
       have h3 : X.opOf h' b = some (nn, 1) := by unfold X.opOf at h3 ⊢; rw [hg b rfl]; exact h3
       have : aSlice P T (.slice (some ⟨b, o, none⟩) cs.length open_) none (some (.int kd (m : Nat))) none h' = some (.slice (some ⟨b, o, none⟩) m open_) := by
         unfold aSlice
         rw [if_pos (show mxOk (some (.int kd (m : Nat))) none = true from rfl)]
         simp only [hT, hk, if_true]
         have e1 : bnd (some (.int kd (m : Nat))) cs.length = some m := by unfold bnd; simp
         have e2 : bnd none 0 = some 0 := rfl
         simp only [e1, e2, h3]
         rw [if_pos ⟨by omega, trivial, .inl (by omega)⟩]
         simp
       unfold aSl
       rw [this]
     · by_cases hm0 : m = 0
       · subst hm0
         exact .inl ⟨by simp, _, _, rfl, (fun e => by cases e), fun q hq => by cases hq; exact h5⟩
       · refine .inr ⟨b, o, open_, fun e => ?_, open_ne, by rw [hlm], h5, fun j hj => ?_⟩
         · rw [e] at hlm; simp at hlm; omega
         · rw [hlm] at hj
           rw [h6 j (by omega), List.getElem?_take, if_pos hj]
     · rw [hlm]
       exact .inr ⟨b, o, nn, rfl, h2, h3, by omega⟩
end
end
end Go.Arm
