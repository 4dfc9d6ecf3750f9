/- Traces and profiles in memory. -/
import Derived.Test.YtjhbbdfbngbjcaaGreatDoorZc
import Derived.WalkKit
import Derived.ProofKit
import Derived.OpenShut
import Derived.Deep.Slices
import Derived.Carry
import Derived.Test.YtjhbbdfbngbjcaaGreatDoorZs
import Derived.Test.YtjhbbdfbngbjcaaGreatDoorZt
import Derived.Test.YtjhbbdfbngbjcaaGreatDoorZr
import Derived.Test.YtjhbbdfbngbjcaaGreatDoorProg
namespace Go.X
noncomputable section
open Go Go.RowKit
structure Held (k : IntKind) (w : World) (v : Value) (l : List Int) : Prop where
 wf : ∀ x, x ∈ l → (Lit.int k x).wf = true
 has : (v = .slice none 0 0 ∧ l = []) ∨ ∃ a cap, v = .slice (some a) l.length cap ∧ l.length ≤ cap ∧ cap ≤ maxLen ∧ (0 < cap → a.spot = none ∧ a.block < w.heap.size) ∧
  ∀ i, i < l.length → w.cell? ⟨a.block, a.off + i, none⟩ = (l[i]?).map (.int k) ∧ w.frozen? ⟨a.block, a.off + i, none⟩ = false
end
end Go.X
namespace Go.Arm
noncomputable section
open Go Go.X Go.RowKit
def First (h : AH) : Prop := ∀ b o, h.m.get b = some o → o.ro = true
theorem hold {W : World} {φ : Phi} {h : AH} (r : R W φ h W) (hf : First h) {k : IntKind} {v : Value} {l : List Int} (H : Held k W v l) :
   ∃ v' φ' h', R W φ' h' W ∧ First h' ∧ Le φ φ' ∧ VR φ' v' v ∧ Sd h' 1 v' l.length (l.map (.int k)) ∧ Sm Nix h h' := by
 have bump : R W φ ⟨h.m, h.next + 1⟩ W := ⟨r.dom, r.low, r.inj, fun b i hi => ⟨(r.lt b i hi).1, Nat.lt_succ_of_lt (r.lt b i hi).2⟩, trivial, r.below⟩
 have smb : Sm Nix h ⟨h.m, h.next + 1⟩ := ⟨Nat.le_succ _, fun _ _ _ => rfl⟩
 rcases H.has with ⟨rfl, rfl⟩ | ⟨a, cap, rfl, hlc, hcm, hpos, hall⟩
 · exact ⟨.slice none 0 0, φ, _, bump, hf, Le.refl φ, .nils 0 0, Sd.nil, smb⟩
 · by_cases h0 : cap = 0
   · subst h0
     have hl0 : l = [] := List.length_eq_zero_iff.1 (by omega)
     subst hl0
     exact ⟨.slice (some ⟨h.next, 0, none⟩) 0 0, φ, _, bump, hf, Le.refl φ, .slice0 _ _ _, ⟨rfl, .inl ⟨rfl, _, _, rfl, (fun e => by cases e), fun q hq => by cases hq; exact Nat.lt_succ_self _⟩⟩, smb⟩
   · obtain ⟨hs, hb⟩ := hpos (by omega)
     obtain ⟨bk, off, spot⟩ := a
     dsimp only at hs hb hall
     subst hs
     have hopen : cap ≠ open_ := by
       have : maxLen < open_ := by decide
       omega
     by_cases hl0 : l = []
     · subst hl0
       have le : Le φ (fun b => if b = h.next then some (⟨bk, off, 0, 0, 0⟩ : Im) else φ b) := by
         intro b j hj
         have := (r.lt b j hj).2
         show (if b = h.next then _ else φ b) = some j
         rw [if_neg (by omega)]; exact hj
       have hget : ∀ b o, h.m.get b = some o → ∀ i, (if b = h.next then some (⟨bk, off, 0, 0, 0⟩ : Im) else φ b) = some i → h.m.get b = none ∨ φ b = some i ∨ b = h.next := by
         intro b o _ i hi
         by_cases e : b = h.next
         · exact .inr (.inr e)
         · rw [if_neg e] at hi; exact .inr (.inl hi)
       have hnone : h.m.get h.next = none ∨ ∃ o, h.m.get h.next = some o := by
         cases h.m.get h.next with
         | none => exact .inl rfl
         | some o => exact .inr ⟨o, rfl⟩
       have getm : ∀ b, (h.m.set h.next none).get b = if b = h.next then none else h.m.get b := fun b => T.get_set b
       refine ⟨.slice (some ⟨h.next, 0, none⟩) 0 cap, _, ⟨h.m.set h.next none, h.next + 1⟩, ⟨fun b i o hi ho => ?_, fun b i o hi ho hr => ?_, fun b b' i i' o o' hi hi' ho ho' hr hc => ?_, fun b i hi => ?_, trivial, r.below⟩, fun b o ho => ?_, le, ?_, ⟨rfl, .inl ⟨rfl, _, _, rfl, (fun e => by cases e), fun q hq => by cases hq; exact Nat.lt_succ_self _⟩⟩, ⟨Nat.le_succ _, fun b hb _ => by show (h.m.set h.next none).get b = _; rw [getm, if_neg (by omega)]⟩⟩
       · rw [getm] at ho
         by_cases e : b = h.next
         · rw [if_pos e] at ho; cases ho
         · rw [if_neg e] at ho hi; exact (r.dom b i o hi ho).mono le
       · rw [getm] at ho
         by_cases e : b = h.next
         · rw [if_pos e] at ho; cases ho
         · rw [if_neg e] at ho hi; exact r.low b i o hi ho hr
       · rw [getm] at ho
         by_cases e : b = h.next
         · rw [if_pos e] at ho; cases ho
         · rw [if_neg e] at ho; have := hf b o ho; rw [hr] at this; cases this
       · by_cases e : b = h.next
         · rw [if_pos e] at hi; cases hi; exact ⟨hb, by subst e; exact Nat.lt_succ_self _⟩
         · rw [if_neg e] at hi; exact ⟨(r.lt b i hi).1, Nat.lt_succ_of_lt (r.lt b i hi).2⟩
       · rw [getm] at ho
         by_cases e : b = h.next
         · rw [if_pos e] at ho; cases ho
         · rw [if_neg e] at ho; exact hf b o ho
       · have := VR.slice (φ := fun b => if b = h.next then some (⟨bk, off, 0, 0, 0⟩ : Im) else φ b) (a := ⟨h.next, 0, none⟩) (l := 0) (c := cap) ⟨bk, off, 0, 0, 0⟩ (if_pos rfl) rfl hopen
         simpa using this
     · have hl1 : 0 < l.length := List.length_pos_iff.2 hl0
       have hcell := (hall 0 hl1).1
       obtain ⟨arr, el, fz, hw⟩ : ∃ arr el fz, W.heap[bk]? = some (.cells arr el fz) := by
         unfold World.cell? at hcell
         split at hcell
         · rename_i e5; exact ⟨_, _, _, e5⟩
         · rw [List.getElem?_eq_getElem hl1] at hcell; cases hcell
       have hat : ∀ j, (hj : j < l.length) → arr[j + off]? = some (.int k l[j]) := by
         intro j hj
         have := (hall j hj).1
         unfold World.cell? at this
         rw [hw] at this
         rw [List.getElem?_eq_getElem hj] at this
         rw [Nat.add_comm]; simpa using this
       have hsz : l.length + off ≤ arr.size := by
         have := (Array.getElem?_eq_some_iff.1 (hat (l.length - 1) (by omega))).1
         omega
       have le : Le φ (fun b => if b = h.next then some (⟨bk, off, l.length, arr.size, 0⟩ : Im) else φ b) := by
         intro b j hj
         have := (r.lt b j hj).2
         show (if b = h.next then _ else φ b) = some j
         rw [if_neg (by omega)]; exact hj
       have getm : ∀ b, (h.m.set h.next (some (AObj.cells (T.fill (l.map (.int k)) 0 .e) l.length 0 true))).get b = if b = h.next then some (AObj.cells (T.fill (l.map (.int k)) 0 .e) l.length 0 true) else h.m.get b := fun b => T.get_set b
       refine ⟨.slice (some ⟨h.next, 0, none⟩) l.length cap, _, ⟨h.m.set h.next (some (AObj.cells (T.fill (l.map (.int k)) 0 .e) l.length 0 true)), h.next + 1⟩, ⟨fun b i o hi ho => ?_, fun b i o hi ho hr => ?_, fun b b' i i' o o' hi hi' ho ho' hr hc => ?_, fun b i hi => ?_, trivial, r.below⟩, fun b o ho => ?_, le, ?_, ⟨by simp, .inr ⟨h.next, 0, cap, _, l.length, 0, true, hl1, h0, rfl, Nat.lt_succ_self _, by show (h.m.set h.next _).get h.next = _; rw [getm, if_pos rfl], by omega, fun j hj => ?_⟩⟩, ⟨Nat.le_succ _, fun b hb _ => by show (h.m.set h.next _).get b = _; rw [getm, if_neg (by omega)]⟩⟩
       · rw [getm] at ho
         by_cases e : b = h.next
         · rw [if_pos e] at ho hi; cases ho; cases hi
           refine ⟨rfl, rfl, trivial, arr, el, ⟨fz, hw, (fun e => by cases e), fun j hj => ?_⟩, rfl, hsz, fun j hj => ?_⟩
           · have := (hall j hj).2
             rw [Nat.add_comm] at this; exact this
           · refine ⟨.int k l[j], .int k l[j], ?_, hat j hj, .int _ _⟩
             rw [T.get_fill, if_pos (by simp; omega)]
             simp [hj]
         · rw [if_neg e] at ho hi; exact (r.dom b i o hi ho).mono le
       · rw [getm] at ho
         by_cases e : b = h.next
         · rw [if_pos e] at ho; cases ho; cases hr
         · rw [if_neg e] at ho hi; exact r.low b i o hi ho hr
       · rw [getm] at ho
         by_cases e : b = h.next
         · rw [if_pos e] at ho; cases ho; cases hr
         · rw [if_neg e] at ho; have := hf b o ho; rw [hr] at this; cases this
       · by_cases e : b = h.next
         · rw [if_pos e] at hi; cases hi; exact ⟨hb, by subst e; exact Nat.lt_succ_self _⟩
         · rw [if_neg e] at hi; exact ⟨(r.lt b i hi).1, Nat.lt_succ_of_lt (r.lt b i hi).2⟩
       · rw [getm] at ho
         by_cases e : b = h.next
         · rw [if_pos e] at ho; cases ho; rfl
         · rw [if_neg e] at ho; exact hf b o ho
       · have := VR.slice (φ := fun b => if b = h.next then some (⟨bk, off, l.length, arr.size, 0⟩ : Im) else φ b) (a := ⟨h.next, 0, none⟩) (l := l.length) (c := cap) ⟨bk, off, l.length, arr.size, 0⟩ (if_pos rfl) rfl hopen
         simpa using this
       · rw [T.get_fill, if_pos (by simp at hj ⊢; omega)]
         simp
theorem first0 : First ah0 := fun b o h => by
 have : (T.e : T AObj).get b = some o := h
 rw [T.get_e] at this; cases this
end
end Go.Arm
namespace Go.X
noncomputable section
open Go Go.RowKit
structure HeldK (k : Nat) (w : World) (v : Value) (n : Nat) (cs : List Value) : Prop where
 len : cs.length = n * k
 fl : ∀ x, x ∈ cs → ∀ φ, VR φ x x
 has : (v = .slice none 0 0 ∧ n = 0) ∨ ∃ a cap, v = .slice (some a) n cap ∧ n ≤ cap ∧ cap ≤ maxLen ∧ (0 < cap → a.spot = none ∧ a.block < w.heap.size) ∧
  ∀ i, i < cs.length → w.cell? ⟨a.block, a.off + i, none⟩ = cs[i]? ∧ w.frozen? ⟨a.block, a.off + i, none⟩ = false
theorem flat_get {α : Type} (f : α → List Value) {k : Nat} (hf : ∀ a, (f a).length = k) : ∀ (l : List α) (i j : Nat), j < k → (l.flatMap f)[i * k + j]? = (l[i]?).bind fun a => (f a)[j]?
 | [], i, j, _ => by simp
 | a :: l, 0, j, hj => by
  rw [List.flatMap_cons, Nat.zero_mul, Nat.zero_add, List.getElem?_append_left (by rw [hf]; exact hj)]
  simp
 | a :: l, i + 1, j, hj => by
  have hk : (i + 1) * k + j = k + (i * k + j) := by rw [Nat.succ_mul]; omega
  rw [List.flatMap_cons, hk, List.getElem?_append_right (by rw [hf]; omega), hf, Nat.add_sub_cancel_left, flat_get f hf l i j hj]
  simp
theorem flat_len {α : Type} (f : α → List Value) {k : Nat} (hf : ∀ a, (f a).length = k) : ∀ (l : List α), (l.flatMap f).length = l.length * k
 | [] => by simp
 | a :: l => by rw [List.flatMap_cons, List.length_append, hf, flat_len f hf l, List.length_cons, Nat.succ_mul, Nat.add_comm]
theorem heldK_of {P : Program} {t e : TypeId} {α : Type} {k : Nat} {f : α → List Value} {ok : α → Prop} (hk0 : 0 < k) (hf : ∀ a, (f a).length = k) (hfl : ∀ a x, x ∈ f a → ∀ φ, VR φ x x) (ht : P.underlying t = some (.slice e)) (hc : P.cellsOf e = k) {H : Type} {enc : TypeId × Value → H} {w : World} {held : Bool}
   (ho : ∀ (fuel : Nat) (cs : List Value) (x : DataW H × List MemPlace), DataW.trod enc P w 0 (fun _ => true) held fuel e cs = some x → ∃ a : α, ok a ∧ cs = f a)
   {b0 : Option Addr} {len0 cap0 : Nat} {d : DataW H} {ps : List MemPlace}
   (h : DataW.Trod enc P w 0 (fun _ => true) held t (.slice b0 len0 cap0) d ps) (hz : w.noneFrozen ps) : ∃ l : List α, (∀ x, x ∈ l → ok x) ∧ HeldK k w (.slice b0 len0 cap0) l.length (l.flatMap f) := by
 obtain ⟨fuel, h⟩ := h
 rcases Deep.open_slice ht h with ⟨e1, _⟩ | ⟨a, len, cap, m, n, D, Pl, e1, _, hlc, hcm, hm, hx, hall⟩
 · have e1 : [Value.slice b0 len0 cap0] = [.slice none 0 0] := e1
   cases e1
   exact ⟨[], fun x hx => by (cases hx), (by simp), fun x hx => by (cases hx), .inl ⟨rfl, rfl⟩⟩
 · have e1 : [Value.slice b0 len0 cap0] = [.slice (some a) len cap] := e1
   cases e1
   have hm : m = cap0 := by simpa using hm
   rw [hc] at hall hx
   have key : ∀ i, i < m → ∃ x : α, ok x ∧ w.cells? 0 (a.add (i * k)) k = some (f x) := by
     intro i hi
     obtain ⟨cs', h1, h2⟩ := hall i hi
     obtain ⟨x, h3, h4⟩ := ho n cs' _ h2
     subst h4
     exact ⟨x, h3, h1⟩
   obtain ⟨b, off, spot⟩ := a
   have hspot : 0 < cap0 → spot = none ∧ b < w.heap.size := by
     intro h0
     obtain ⟨x, _, h1⟩ := key 0 (by omega)
     obtain ⟨_, h2, h3⟩ := World.cells?_some h1
     have h4 := h3 0 (by omega)
     rw [List.getElem?_eq_getElem (by rw [hf]; omega)] at h4
     have hs : spot = none := by simpa [Addr.add] using World.cell?_spot h4
     refine ⟨hs, ?_⟩
     unfold World.cell? at h4
     split at h4
     · rename_i e5; have := (Array.getElem?_eq_some_iff.1 e5).1; simpa [Addr.add] using this
     · cases h4
   refine ⟨List.ofFn (fun i : Fin len0 => Classical.choose (key i.1 (by omega))), fun x hx => ?_, flat_len f hf _, fun x hx φ => ?_, .inr ⟨⟨b, off, spot⟩, cap0, by simp, by simpa using hlc, hcm, hspot, fun i hi => ?_⟩⟩
   · rw [List.mem_ofFn] at hx
     obtain ⟨i, rfl⟩ := hx
     exact (Classical.choose_spec (key i.1 (by omega))).1
   · obtain ⟨y, _, hy⟩ := List.mem_flatMap.1 hx
     exact hfl y x hy φ
   · rw [flat_len f hf, List.length_ofFn] at hi
     have hq : i / k < len0 := (Nat.div_lt_iff_lt_mul hk0).2 hi
     have hr : i % k < k := Nat.mod_lt _ hk0
     have hi2 : i / k * k + i % k = i := by rw [Nat.mul_comm]; exact Nat.div_add_mod i k
     have h0l : 0 < len0 := Nat.lt_of_le_of_lt (Nat.zero_le _) hq
     obtain ⟨hs, _⟩ := hspot (by omega)
     subst hs
     obtain ⟨_, h6⟩ := Classical.choose_spec (key (i / k) (by omega))
     obtain ⟨_, h2, h3⟩ := World.cells?_some h6
     have h4 := h3 (i % k) hr
     have h7 : w.cell? ⟨b, off + i, none⟩ = (f (Classical.choose (key (i / k) (by omega))))[i % k]? := by
       have e1 : ((⟨b, off, none⟩ : Addr).add (i / k * k)).add (i % k) = ⟨b, off + i, none⟩ := by
        rw [WideShapes.add_plain, WideShapes.add_plain, show off + i / k * k + i % k = off + i by omega]
       rw [← e1]
       exact h4
     refine ⟨?_, ?_⟩
     · rw [h7]
       have := flat_get f hf (List.ofFn (fun i : Fin len0 => Classical.choose (key i.1 (by omega)))) (i / k) (i % k) hr
       rw [hi2] at this
       rw [this, List.getElem?_ofFn, dif_pos hq]
       rfl
     · have hps : MemPlace.cell b (off + i) ∈ ps := by
        have hx2 : ps = MemPlace.row ⟨b, off, none⟩ (m * k) ++ (List.range m).flatMap Pl := (Prod.mk.inj hx).2
        rw [hx2]
        refine List.mem_append_left _ ?_
        unfold MemPlace.row
        simp only [List.mem_map, List.mem_range]
        refine ⟨i, ?_, by simp⟩
        have : len0 * k ≤ m * k := Nat.mul_le_mul_right _ (by omega)
        omega
       exact hz b (off + i) hps
end
end Go.X
namespace Go.Arm
noncomputable section
open Go Go.X Go.RowKit
end
end Go.Arm
namespace Go.Arm
noncomputable section
open Go Go.X
def nv (x : Int) : Value := .int .i64 x
def ev6 (x : TE) : List Value := [nv x.k, nv x.p, nv x.t, nv x.n, nv x.v, .bool x.w]
def sp4 (s : TS) : List Value := [nv s.b, nv s.e, nv s.w, nv s.y]
theorem ev6_len (x : TE) : (ev6 x).length = 6 := rfl
theorem sp4_len (x : TS) : (sp4 x).length = 4 := rfl
theorem oneS {h : AH} {v : Value} {n k : Nat} {cs : List Value} (g : Sd h k v n cs) : cellsL v = [v] ∧ v.oneCell' = true := by
 obtain ⟨a, c, rfl⟩ := g.form
 exact ⟨rfl, rfl⟩
section
variable {P : Program} {h h' : AH} {S F : Nat → Prop} {b o n k : Nat} {v : Value} {cs l : List Value} {T el : TypeId}
theorem cells_l : ∀ (l : List Value) (i : Nat), (∀ j, j < l.length → h.cell ⟨b, o + (i + j), none⟩ = l[j]?) → h.cells ⟨b, o, none⟩ i l.length = some l
 | [], i, _ => rfl
 | x :: l, i, hl => by
  have ih := cells_l l (i + 1) (fun j hj => by
   have := hl (j + 1) (by simpa using hj)
   rw [show i + 1 + j = i + (j + 1) by omega]
   simpa using this)
  have h0 : h.cell ⟨b, o + i, none⟩ = some x := hl 0 (by simp)
  show h.cells ⟨b, o, none⟩ i (l.length + 1) = _
  unfold AH.cells
  dsimp only
  rw [h0, ih]
theorem ld_l (hs : aggT P el l.length = true) (hl : ∀ j, j < l.length → h.cell ⟨b, o + j, none⟩ = l[j]?) : aLoad P el ⟨b, o, none⟩ h = some (.agg ⟨l⟩) := by
 unfold aggT at hs
 cases hu : P.underlying el with
 | none => rw [hu] at hs; cases hs
 | some d =>
  rw [hu] at hs
  simp only [Bool.and_eq_true] at hs
  cases hz : szOf P el with
  | none => rw [hz] at hs; cases hs.2
  | some j =>
   rw [hz] at hs
   have : j = l.length := Nat.eq_of_beq_eq_true hs.2
   subst this
   unfold aLoad
   simp only [hu, hs.1, if_true, hz]
   rw [cells_l l 0 (fun j hj => by rw [Nat.zero_add]; exact hl j hj)]
theorem flat_at {α : Type} (f : α → List Value) {k : Nat} (hf : ∀ a, (f a).length = k) {l : List α} {i : Nat} {x : α} (hi : l[i]? = some x) {j : Nat} (hj : j < k) : (l.flatMap f)[i * k + j]? = (f x)[j]? := by
 rw [flat_get f hf l i j hj, hi]; rfl
end
structure TIn (h : AH) (F : Nat → Prop) (V : Option Nat → Value) (N : Nat) (L : Lf) : Prop where
 o : Sd h 1 (V none) N ((List.range N).map fun p => V (some p))
 r : ∀ p, p < N → Sd h 6 (V (some p)) (L p).length ((L p).flatMap ev6)
 fo : ∀ b, vb (V none) = some b → F b
 fr : ∀ p b, p < N → vb (V (some p)) = some b → F b
section
variable {P : Program} {h h' : AH} {S F F' : Nat → Prop} {V : Option Nat → Value} {N : Nat} {L : Lf} {T el : TypeId} {p i : Nat} {x : TE}
theorem TIn.sm (H : TIn h F V N L) (s : Sm S h h') (hS : ∀ b, S b → ¬ F b) : TIn h' F V N L :=
 ⟨H.o.sm s (fun b hb hs => hS b hs (H.fo b hb)), fun p hp => (H.r p hp).sm s (fun b hb hs => hS b hs (H.fr p b hp hb)), H.fo, H.fr⟩
theorem TIn.mono (H : TIn h F V N L) (hF : ∀ b, F b → b < h.next → F' b) : TIn h F' V N L :=
 ⟨H.o, H.r, fun b hb => hF b (H.fo b hb) (H.o.lt hb), fun p b hp hb => hF b (H.fr p b hp hb) ((H.r p hp).lt hb)⟩
theorem TIn.len (H : TIn h F V N L) (hT : P.underlying T = some (.slice el)) : aLen P T (V none) h = some (.int .i64 N) := H.o.len hT
theorem TIn.lenR (H : TIn h F V N L) (hT : P.underlying T = some (.slice el)) (hp : p < N) : aLen P T (V (some p)) h = some (.int .i64 (L p).length) := (H.r p hp).len hT
theorem TIn.row (H : TIn h F V N L) (hT : P.underlying T = some (.slice el)) (hk : szOf P el = some 1) (hs : scalT P el = true) (hp : p < N) :
  ∃ b o, aIndex P T (V none) (.int .i64 p) = some (.pointer (some ⟨b, o, none⟩)) ∧ aLoad P el ⟨b, o, none⟩ h = some (V (some p)) := by
 obtain ⟨b, o, _, h1, h2⟩ := H.o.at hT hk hp .i64
 refine ⟨b, o, h1, ld_cell hs ?_⟩
 have := h2 0 (by decide)
 rw [Nat.add_zero, Nat.mul_one, Nat.add_zero, List.getElem?_map, List.getElem?_range hp] at this
 exact this
theorem TIn.ev (H : TIn h F V N L) (hT : P.underlying T = some (.slice el)) (hk : szOf P el = some 6) (hp : p < N) (hx : (L p)[i]? = some x) :
  ∃ b o, aIndex P T (V (some p)) (.int .i64 i) = some (.pointer (some ⟨b, o, none⟩)) ∧ ∀ j, j < 6 → h.cell ⟨b, o + j, none⟩ = (ev6 x)[j]? := by
 obtain ⟨b, o, _, h1, h2⟩ := (H.r p hp).at hT hk (List.getElem?_eq_some_iff.1 hx).1 .i64
 exact ⟨b, o, h1, fun j hj => by rw [h2 j hj, flat_at ev6 ev6_len hx hj]⟩
end
def sgg : Option Nat → Bool
 | none => false
 | some _ => true
def skk : Option Nat → Nat
 | none => 1
 | some _ => 4
def snn (N : Nat) (S : Sf) : Option Nat → Nat
 | none => N
 | some p => (S p).length
def scs (V : Option Nat → Value) (N : Nat) (S : Sf) : Option Nat → List Value
 | none => (List.range N).map fun p => V (some p)
 | some p => (S p).flatMap sp4
structure SpL (h : AH) (hi B : Nat) (V : Option Nat → Value) (N : Nat) (S : Sf) : Prop where
 lay : Lay h sgg skk V (snn N S) (scs V N S)
 b : V none = .slice (some ⟨B, 0, none⟩) N N
 lo : ∀ p b, vb (V (some p)) = some b → hi ≤ b
 Bl : B < hi
 hn : hi ≤ h.next
def Tch (hi B : Nat) (b : Nat) : Prop := b = B ∨ hi ≤ b
section
variable {P : Program} {h h' h1 h2 : AH} {Q F F' : Nat → Prop} {V : Option Nat → Value} {N hi B : Nat} {S : Sf} {T el : TypeId} {p i : Nat} {s : TS} {v' : Value}
theorem SpL.sm (H : SpL h hi B V N S) (t : Sm Q h h') (hS : ∀ b, Q b → b ≠ B ∧ (b < hi ∨ h.next ≤ b)) : SpL h' hi B V N S := by
 refine ⟨H.lay.sm t (fun r b hb hs => ?_), H.b, H.lo, H.Bl, Nat.le_trans H.hn t.nx⟩
 obtain ⟨h1, h2⟩ := hS b hs
 cases r with
 | none => rw [H.b] at hb; cases hb; exact h1 rfl
 | some p =>
  have := H.lo p b hb
  have := H.lay.lt hb
  omega
theorem SpL.ext (H : SpL h hi B V N S) (t : Sm Nix h h') : SpL h' hi B V N S := H.sm t (fun _ x => x.elim)
theorem SpL.len (H : SpL h hi B V N S) (hT : P.underlying T = some (.slice el)) : aLen P T (V none) h = some (.int .i64 N) := (H.lay.gr none).ws.lenV hT
theorem SpL.lenR (H : SpL h hi B V N S) (hT : P.underlying T = some (.slice el)) (p : Nat) : aLen P T (V (some p)) h = some (.int .i64 (S p).length) := (H.lay.gr (some p)).ws.lenV hT
theorem SpL.row (H : SpL h hi B V N S) (hT : P.underlying T = some (.slice el)) (hk : szOf P el = some 1) (hs : scalT P el = true) (hp : p < N) :
  ∃ b o, aIndex P T (V none) (.int .i64 p) = some (.pointer (some ⟨b, o, none⟩)) ∧ aLoad P el ⟨b, o, none⟩ h = some (V (some p)) := by
 obtain ⟨b, o, _, h1, h2⟩ := (H.lay.gr none).ws.sd.at (n := N) hT hk hp .i64
 refine ⟨b, o, h1, ld_cell hs ?_⟩
 have := h2 0 (by decide)
 rw [Nat.add_zero, Nat.mul_one, Nat.add_zero] at this
 rw [this]
 show ((List.range N).map fun p => V (some p))[p]? = _
 rw [List.getElem?_map, List.getElem?_range hp]
 rfl
theorem SpL.sp (H : SpL h hi B V N S) (hT : P.underlying T = some (.slice el)) (hk : szOf P el = some 4) (hx : (S p)[i]? = some s) :
  ∃ b o, aIndex P T (V (some p)) (.int .i64 i) = some (.pointer (some ⟨b, o, none⟩)) ∧ ∀ j, j < 4 → h.cell ⟨b, o + j, none⟩ = (sp4 s)[j]? := by
 obtain ⟨b, o, _, h1, h2⟩ := (H.lay.gr (some p)).ws.sd.at (n := (S p).length) hT hk (List.getElem?_eq_some_iff.1 hx).1 .i64
 exact ⟨b, o, h1, fun j hj => by rw [h2 j hj]; exact flat_at sp4 sp4_len hx hj⟩
theorem SpL.grow (H : SpL h hi B V N S) (hp : p < N) (t1 : Sm (fun b => vb (V (some p)) = some b) h h1) (g : Gr h1 4 v' ((S p).length + 1) ((S p).flatMap sp4 ++ sp4 s)) (hv : ∀ b, vb v' = some b → vb (V (some p)) = some b ∨ h.next ≤ b)
   (t2 : Sm (fun b => vb (V none) = some b) h1 h2) (g2 : Ws h2 1 (V none) N (((List.range N).map fun p => V (some p)).set p v')) : SpL h2 hi B (ups V (some p) v') N (put1 S p s) ∧ Sm (Tch hi B) h h2 := by
 have L1 := H.lay.put (some p) t1 (H.lay.own _ fun b hb => .inl hb) g (H.lay.fresh _ hv)
 have hnone : ups V (some p) v' none = V none := ups_ne _ _ (by simp)
 have L2 := L1.put none (v := V none) (m := N) (c := ((List.range N).map fun p => V (some p)).set p v') t2 (by
   intro r' hr b hb hb'
   exact hr (L1.inj r' none b hb (by rw [hnone]; exact hb'))) g2 (by
   intro r' hr b hb hb'
   exact hr (L1.inj r' none b hb (by rw [hnone]; exact hb')))
 refine ⟨⟨L2.eq ?_ ?_ ?_, by rw [hnone]; exact H.b, fun q b hb => ?_, H.Bl, Nat.le_trans H.hn (Nat.le_trans t1.nx t2.nx)⟩, ?_⟩
 · funext r
   cases r with
   | none => rw [hnone, ups_at]
   | some q => exact (ups_ne _ _ (by simp)).symm
 · funext r
   cases r with
   | none => rw [ups_at]; rfl
   | some q =>
     rw [ups_ne _ _ (by simp)]
     by_cases e : q = p
     · subst e; rw [ups_at]; show (put1 S q s q).length = _; rw [put1_at]; simp
     · rw [ups_ne _ _ (by simpa using e)]; show (put1 S p s q).length = _; rw [put1_ne _ _ e]; rfl
 · funext r
   cases r with
   | none =>
     rw [ups_at]
     show (List.range N).map _ = _
     rw [map_set_range]
     refine List.map_congr_left fun q _ => ?_
     by_cases e : q = p
     · subst e; rw [ups_at, if_pos rfl]
     · rw [ups_ne _ _ (by simpa using e), if_neg e]
   | some q =>
     rw [ups_ne _ _ (by simp)]
     by_cases e : q = p
     · subst e; rw [ups_at]; show (put1 S q s q).flatMap sp4 = _; rw [put1_at]; simp
     · rw [ups_ne _ _ (by simpa using e)]; show (put1 S p s q).flatMap sp4 = _; rw [put1_ne _ _ e]; rfl
 · by_cases e : q = p
   · subst e
     rw [ups_at] at hb
     rcases hv b hb with h5 | h5
     · exact H.lo q b h5
     · exact Nat.le_trans H.hn h5
   · rw [ups_ne _ _ (by simpa using e)] at hb
     exact H.lo q b hb
 · refine Sm.trans (S := Tch hi B) (S' := Tch hi B) (t1.mono fun b hb => .inr (H.lo p b hb)) (t2.mono fun b hb => ?_) (fun b hb => .inl hb)
   rw [H.b] at hb; cases hb; exact .inl rfl
end
end
end Go.Arm
namespace Go.Arm
noncomputable section
open Go Go.X
def meetL (L : Lf) (no : Int) : Nat → List (Nat × Nat)
 | 0 => []
 | k + 1 => match fnd (L k) 3 0 no with
  | none => meetL L no k
  | some i => meetL L no k ++ [(k, i)]
def opAcc (S : Sf) (e : Nat × Nat) (acc : Option (Int × Nat × Nat)) : Option (Int × Nat × Nat) := match acc with
 | some a => if a.1 < bgn S e.1 e.2 then some (bgn S e.1 e.2, e.1, e.2) else some a
 | none => some (bgn S e.1 e.2, e.1, e.2)
def opl (S : Sf) : Option (Int × Nat × Nat) → List (Nat × Nat) → Option (Option (Int × Nat × Nat))
 | acc, [] => some acc
 | acc, e :: l => if (S e.1).length < e.2 then none else opl S (opAcc S e acc) l
theorem opl_app (S : Sf) : ∀ (l m : List (Nat × Nat)) (acc : Option (Int × Nat × Nat)), opl S acc (l ++ m) = (opl S acc l).bind fun a => opl S a m
 | [], m, acc => rfl
 | e :: l, m, acc => by
  simp only [List.cons_append, opl]
  split
  · rfl
  · exact opl_app S l m _
theorem opn_opl (L : Lf) (S : Sf) (no : Int) : ∀ k, opn L S no k = opl S none (meetL L no k)
 | 0 => rfl
 | k + 1 => by
  unfold opn meetL
  rw [opn_opl L S no k]
  cases hf : fnd (L k) 3 0 no with
  | none =>
   dsimp only
   cases opl S none (meetL L no k) <;> rfl
  | some i =>
   dsimp only
   rw [opl_app]
   cases opl S none (meetL L no k) with
   | none => rfl
   | some acc =>
    dsimp only [Option.bind]
    simp only [opl]
    split
    · rfl
    · cases acc with
      | none => rfl
      | some a => rfl
theorem meetL_lt {L : Lf} {no : Int} : ∀ {k : Nat} {e : Nat × Nat}, e ∈ meetL L no k → e.1 < k ∧ fnd (L e.1) 3 0 no = some e.2
 | 0, e, h => by cases h
 | k + 1, e, h => by
  unfold meetL at h
  split at h
  · obtain ⟨h1, h2⟩ := meetL_lt h; exact ⟨by omega, h2⟩
  · rename_i i hi
    rcases List.mem_append.1 h with h | h
    · obtain ⟨h1, h2⟩ := meetL_lt h; exact ⟨by omega, h2⟩
    · cases List.mem_singleton.1 h; exact ⟨Nat.lt_succ_self _, hi⟩
theorem meetL_len (L : Lf) (no : Int) : ∀ k, (meetL L no k).length ≤ k
 | 0 => Nat.le_refl _
 | k + 1 => by
  have := meetL_len L no k
  unfold meetL
  split
  · omega
  · simp; omega
def k3 (m : Int × Int × Int) : Value := .agg ⟨[nv m.1, nv m.2.1, nv m.2.2]⟩
def st2 (e : Nat × Nat) : List Value := [nv (e.1 : Int), nv (e.2 : Int)]
theorem st2_len (e : Nat × Nat) : (st2 e).length = 2 := rfl
def r2 (v : Value) (x : Int × Int) : Prop := v = .agg ⟨[nv x.1, nv x.2]⟩
def Rst (h : AH) (F : Nat → Prop) (v : Value) (l : List (Nat × Nat)) : Prop := Sd h 2 v l.length (l.flatMap st2) ∧ ∀ b, vb v = some b → F b
structure PT (h : AH) (F : Nat → Prop) (tb sb mb : Nat) (VL : Option Nat → Value) (sp : Value) (N : Nat) (L : Lf) (C : TC) (mt : List (Int × List (Nat × Nat))) : Prop where
 cl : Cl h tb [VL none, nv C.s, nv C.c, nv C.r, nv C.m, .map (some sb), .map (some mb), sp]
 inp : TIn h F VL N L
 sent : Mp h sb k3 r2 (sendsA 0 ((List.range N).map L))
 meets : Mp h mb nv (Rst h F) mt
 ft : F tb
 fs : F sb
 fm : F mb
 mts : ∀ no, (kget mt no).getD [] = meetL L no N
section
variable {h h' : AH} {F Q : Nat → Prop} {tb sb mb N : Nat} {VL : Option Nat → Value} {sp : Value} {L : Lf} {C : TC} {mt : List (Int × List (Nat × Nat))}
theorem PT.sm (H : PT h F tb sb mb VL sp N L C mt) (t : Sm Q h h') (hQ : ∀ b, Q b → ¬ F b) : PT h' F tb sb mb VL sp N L C mt :=
 ⟨H.cl.sm t (fun x => hQ _ x H.ft), H.inp.sm t hQ, H.sent.sm t (fun x => hQ _ x H.fs) (fun _ _ x => x), H.meets.sm t (fun x => hQ _ x H.fm) (fun _ _ x => ⟨x.1.sm t (fun b hb hx => hQ b hx (x.2 b hb)), x.2⟩), H.ft, H.fs, H.fm, H.mts⟩
theorem PT.ext (H : PT h F tb sb mb VL sp N L C mt) (t : Sm Nix h h') : PT h' F tb sb mb VL sp N L C mt := H.sm t (fun _ x => x.elim)
def accA : Option (Int × Nat × Nat) → Int
 | none => -1
 | some a => a.1
def accW : Option (Int × Nat × Nat) → List Value
 | none => [nv 0, nv 0]
 | some a => [nv (a.2.1 : Int), nv (a.2.2 : Int)]
def opV : Option (Option (Int × Nat × Nat)) → Value
 | none => .tuple ⟨[nv 0, .agg ⟨[nv 0, nv 0]⟩, .bool false]⟩
 | some acc => .tuple ⟨[nv (accA acc), .agg ⟨accW acc⟩, .bool true]⟩
theorem accW_len (acc : Option (Int × Nat × Nat)) : (accW acc).length = 2 := by cases acc <;> rfl
theorem opAcc_lt {S : Sf} {e : Nat × Nat} {acc : Option (Int × Nat × Nat)} (h : accA acc < bgn S e.1 e.2) : opAcc S e acc = some (bgn S e.1 e.2, e.1, e.2) := by
 cases acc with
 | none => rfl
 | some a => exact if_pos h
theorem opAcc_ge {S : Sf} {e : Nat × Nat} {acc : Option (Int × Nat × Nat)} (h : ¬ accA acc < bgn S e.1 e.2) (h0 : 0 ≤ bgn S e.1 e.2) : opAcc S e acc = acc := by
 cases acc with
 | none => exfalso; apply h; show (-1 : Int) < _; omega
 | some a => exact if_neg h
theorem opl_step {S : Sf} {l : List (Nat × Nat)} {k : Nat} {e : Nat × Nat} {acc : Option (Int × Nat × Nat)} (he : l[k]? = some e) : opl S acc (l.drop k) = if (S e.1).length < e.2 then none else opl S (opAcc S e acc) (l.drop (k + 1)) := by
 have hk := (List.getElem?_eq_some_iff.1 he).1
 rw [List.drop_eq_getElem_cons hk]
 rw [List.getElem?_eq_getElem hk] at he
 cases he
 rfl
theorem fnd_lt {l : List TE} {k p n : Int} {i : Nat} (h : fnd l k p n = some i) : i < l.length := by
 unfold fnd at h
 exact (List.findIdx?_eq_some_iff_findIdx_eq.1 h).1
theorem evR_tct {P : Program} {h : AH} {n : Nat} {f : Fr} {a : Addr} {i k j : Nat} {T : TypeId} {u v w : Value} (hi : Nat.blt i n = true) (hk : Nat.blt k n = true) (hj : Nat.blt j n = true) (h1 : f i = u) (hf : f k = .pointer (some a)) (hl : aLoad P T a h = some v) (h2 : f j = w) : evR P n f h [.tmp i, .cell k T, .tmp j] = some (.tuple ⟨[u, v, w]⟩) := by
 have e1 : evR1 P n f h (.cell k T) = some v := by unfold evR1; simp only [hk, hf]; exact hl
 have e2 : evR1 P n f h (.tmp i) = some u := by unfold evR1; simp only [hi, h1]
 have e3 : evR1 P n f h (.tmp j) = some w := by unfold evR1; simp only [hj, h2]
 unfold evR evRL evRL evRL evRL
 rw [e1, e2, e3]
theorem evR_ct {P : Program} {h : AH} {n : Nat} {f : Fr} {a : Addr} {k j : Nat} {T : TypeId} {v w : Value} (hk : Nat.blt k n = true) (hj : Nat.blt j n = true) (hf : f k = .pointer (some a)) (hl : aLoad P T a h = some v) (h2 : f j = w) : evR P n f h [.cell k T, .tmp j] = some (.tuple ⟨[v, w]⟩) := by
 have e1 : evR1 P n f h (.cell k T) = some v := by unfold evR1; simp only [hk, hf]; exact hl
 have e3 : evR1 P n f h (.tmp j) = some w := by unfold evR1; simp only [hj, h2]
 unfold evR evRL evRL evRL
 rw [e1, e3]
theorem look_ext {P : Program} {h h' : AH} {T : TypeId} {b : Nat} {k : Value} {c : Bool} (t : Sm Nix h h') (hb : b < h.next) : aLookup P T (.map (some b)) k c h' = aLookup P T (.map (some b)) k c h := by
 unfold aLookup
 simp only [t.get b hb (fun x => x)]
theorem ldx {P : Program} {h h' : AH} {T : TypeId} {b o : Nat} {v : Value} (hv : aLoad P T ⟨b, o, none⟩ h = some v) (hb : b < h.next) (t : Sm Nix h h') : aLoad P T ⟨b, o, none⟩ h' = some v := by
 have hg := t.get b hb (fun x => x)
 have hc : ∀ k : Nat, h'.cell ⟨b, k, none⟩ = h.cell ⟨b, k, none⟩ := fun k => by unfold AH.cell; simp only [hg]
 have hcs : ∀ (m i : Nat), h'.cells ⟨b, o, none⟩ i m = h.cells ⟨b, o, none⟩ i m := by
  intro m
  induction m with
  | zero => intro i; rfl
  | succ m ih => intro i; unfold AH.cells; dsimp only; rw [hc, ih]
 unfold aLoad at hv ⊢
 simp only [hc, hcs]
 exact hv
theorem Rk_lk {P : Program} {n : Nat} {ops : Array Oper} {f : Fr} {h : AH} {i : Nat} {r : List Nat} {o : Oper} {T : TypeId} {x y : Operand} {a b : Value} {c : Bool} {d : Nat} (v : Value) (ho : ops[i]? = some o) (hop : o.op = .lookup T x y c) (hd : o.dst = some d) (ha : ev n f x = some a) (hb : ev n f y = some b) (hv : aLookup P T a b c h = some v) (hf : f d = v) (k : Rk P n ops f h r) : Rk P n ops f h (i :: r) :=
 Rk_v (v := v) ho hd (by rw [hop]; simp only [evVal, ha, hb]; exact aLookupX_of hv) hf k
theorem Rk_ln {P : Program} {n : Nat} {ops : Array Oper} {f : Fr} {h : AH} {i : Nat} {r : List Nat} {o : Oper} {T : TypeId} {x : Operand} {a : Value} {d : Nat} (v : Value) (ho : ops[i]? = some o) (hop : o.op = .call ⟨.builtin .len, ⟨[x]⟩, ⟨[T]⟩⟩) (hd : o.dst = some d) (ha : ev n f x = some a) (hv : aLen P T a h = some v) (hf : f d = v) (k : Rk P n ops f h r) : Rk P n ops f h (i :: r) :=
 Rk_v (v := v) ho hd (by rw [hop]; simp only [evVal, ha]; exact hv) hf k
theorem Cl.all {P : Program} {h : AH} {b : Nat} {l : List Value} {T : TypeId} (hc : Cl h b l) (hT : aggT P T l.length = true) : aLoad P T ⟨b, 0, none⟩ h = some (.agg ⟨l⟩) := by
 have := hc.ldS (o := 0) hT (by omega)
 rw [List.drop_zero, List.take_length] at this
 exact this
theorem Cl.allN {P : Program} {h : AH} {b n : Nat} {l : List Value} {T : TypeId} (hc : Cl h b l) (hl : l.length = n) (hT : aggT P T n = true) : aLoad P T ⟨b, 0, none⟩ h = some (.agg ⟨l⟩) := hc.all (by rw [hl]; exact hT)
theorem Cl.storeN {P : Program} {h : AH} {b n : Nat} {l cs : List Value} {T : TypeId} {v : Value} (hc : Cl h b l) (hl : l.length = n) (hz : szOf P T = some n) (hv : cellsL v = cs) (hcs : cs.length = n) (h1 : ∀ v, v ∈ cs → v.oneCell' = true) :
 ∃ h', aStore P T ⟨b, 0, none⟩ v h = some h' ∧ Cl h' b cs ∧ Sm (fun k => k = b) h h' ∧ h'.next = h.next := hc.storeS (by rw [hl]; exact hz) hv (by rw [hl, hcs]) h1
theorem dec_ok {i : Nat} (h0 : i ≠ 0) (hk : i < 1000000000) : Value.int .i64 (IntKind.i64.wrap ((i : Int) - 1)) = nv ((i - 1 : Nat) : Int) := by
 have : IntKind.i64.wrap ((i : Int) - 1) = ((i - 1 : Nat) : Int) := by rw [IntKind.wrap_i64]; omega
 rw [this]; rfl
theorem max_two (P : Program) (Ts : List TypeId) (a b : Int) (h : AH) : aBuiltin P .max Ts [nv a, nv b] h = some [(.val (nv (max a b)), h)] := by
 have e : pureRun P (Builtin.max_ #[] 0 ⟨[nv a, nv b]⟩) = some (nv (if b > a then b else a)) := rfl
 have e2 : (if b > a then b else a) = max a b := by split <;> omega
 rw [e2] at e
 unfold aBuiltin aPure
 simp only [e]
 rfl
theorem wrap_id {a : Int} (h0 : -4611686018427387904 ≤ a) (h1 : a < 4611686018427387904) : Value.int .i64 (IntKind.i64.wrap a) = nv a := by
 have : IntKind.i64.wrap a = a := by rw [IntKind.wrap_i64]; omega
 rw [this]; rfl
end
theorem L_in {P : Program} [Kn P] {n : Nat} {ops : Array Oper} {Q : Post} {o : Oper} {rest : List Oper} {f : Fr} {h : AH} {T : TypeId} {m i x : Operand} {a b c : Value} (h' : AH) (ho : o.op = .insert T m i x) (hs : okO n o = true) (hd : o.dst = none) (ha : ev n f m = some a) (hb : ev n f i = some b) (hc : ev n f x = some c) (hv : aUpdate P T a b c h = some h')
  (k : L P n ops Q rest f h') : L P n ops Q (o :: rest) f h :=
 L_do (okO_ok hs).1 hd (by rw [ho]; rfl) (by rw [ho]; simp only [evAct, ha, hb, hc, hv]; rfl) k
end
end Go.Arm
namespace Go.Proofs.YtjhbbdfbngbjcaaGreatDoor
open Go Go.X Go.Arm
noncomputable instance kn : Kn Tryz.prog := ⟨some 4, fun g e W => by cases e; exact worksYes W, fun _ _ _ => none, fun _ _ _ _ e => by cases e⟩
end Go.Proofs.YtjhbbdfbngbjcaaGreatDoor
namespace Go.Proofs.YtjhbbdfbngbjcaaGreatDoor
noncomputable section
open Go Go.X Go.Arm
theorem kr {p : Prop} (h : p := by kernel_rfl) : p := h
end
end Go.Proofs.YtjhbbdfbngbjcaaGreatDoor
namespace Go.Arm
open Go Go.X Go.Proofs Go.Proofs.YtjhbbdfbngbjcaaGreatDoor
variable {S S' : Nat → Prop} {h h' h'' : AH}
theorem Sm.tr (s : Sm S h h') (k : Sm S' h' h'') (hs : ∀ x, S' x → S x ∨ h.next ≤ x := by
    intro x hx
    have hx : x = _ := hx
    first | exact .inr (by omega) | exact .inl (by subst hx; first | rfl | exact .inl rfl | exact .inr rfl | exact .inr (.inl rfl) | exact .inr (.inr rfl) | (show _ < _; omega))) : Sm S h h'' := s.trans k hs
variable {b : Nat} {l : List Value}
theorem Cl.sn (c : Cl h b l) (t : Sm S h h') (hn : ¬ S b := by (show ¬ _ = _); omega) : Cl h' b l := c.sm t hn
theorem Cl.sN (c : Cl h b l) (T : TypeId) (v : Value) (cs : List Value) (hl : l.length = cs.length := by exact rfl) (hz : szOf Tryz.prog T = some cs.length := by kernel_rfl) (hv : cellsL v = cs := by exact rfl) (h1 : ∀ v, v ∈ cs → v.oneCell' = true := by exact List.all_eq_true.1 rfl) :
    ∃ h', aStore Tryz.prog T ⟨b, 0, none⟩ v h = some h' ∧ Cl h' b cs ∧ Sm (fun k => k = b) h h' ∧ h'.next = h.next := Cl.storeN c hl hz hv rfl h1
theorem Cl.sA (c : Cl h b l) (T : TypeId) (cs : List Value) (hl : l.length = cs.length := by exact rfl) (hz : szOf Tryz.prog T = some cs.length := by kernel_rfl) (hv : cellsL (.agg ⟨cs⟩) = cs := by exact rfl) (h1 : ∀ v, v ∈ cs → v.oneCell' = true := by exact List.all_eq_true.1 rfl) :
    ∃ h', aStore Tryz.prog T ⟨b, 0, none⟩ (.agg ⟨cs⟩) h = some h' ∧ Cl h' b cs ∧ Sm (fun k => k = b) h h' ∧ h'.next = h.next := Cl.storeN c hl hz hv rfl h1
variable {P : Program} {n : Nat} {ops : Array Oper} {rest : List Oper} {o : Oper} {f : Fr} {Q : Post}
theorem L_nwc [Kn P] (l : List Value) (mk : Mk) (hs : okO n o = true) (hk : kOp o.op = 0) (ha : evAl P n f o.op = some (.cells l, mk))
    (k : ∀ h', Cl h' h.next l → Sm Nix h h' → h'.next = h.next + 1 → L P n ops Q rest (updO f o.dst (mk.val h.next)) h') : L P n ops Q (o :: rest) f h :=
  L_nw (.cells l) mk hs hk ha (k _ (Cl.new h _) (.push h _) rfl)
variable {K : Fr → AH → Prop} {pre r : List Nat} {i : Nat}
theorem NS_nwc (l : List Value) (mk : Mk) (ho : ops[i]? = some o) (hw : wantF n ops o f = true) (hd : dOk n o.dst = true) (hk : opK o.op = 3) (ha : evAl P n f o.op = some (.cells l, mk))
    (hr : Rk P n ops (updO f o.dst (mk.val h.next)) (h.push (Al.cells l).obj) (pre ++ [i])) (k : ∀ h', Cl h' h.next l → Sm Nix h h' → h'.next = h.next + 1 → NS P n ops (pre ++ [i]) K r (updO f o.dst (mk.val h.next)) h') : NS P n ops pre K (i :: r) f h :=
  NS_newR (.cells l) mk ho hw hd hk ha hr (k _ (Cl.new h _) (.push h _) rfl)
variable {w : AH}
variable [Kn P]
theorem W_sr {l : List Oper} {id : Nat} {y : Code} (h : L P n l.toArray (Then (fun f w => W P n y Q f w) Q) l f w) : W P n (.seq (.region id l.toArray false) y) Q f w := W_seq (W_region h)
theorem W_rg (k : Nat) {id : Nat} {l : List Oper} (hs : okG P n w l.toArray (l.take k) f = true) (h : L P n l.toArray Q (l.drop k) (runG P n w l.toArray (l.take k) f) w) : W P n (.region id l.toArray false) Q f w := W_region (L_g k hs h)
theorem W_sg (k : Nat) {id : Nat} {l : List Oper} {y : Code} (hs : okG P n w l.toArray (l.take k) f = true) (h : L P n l.toArray (Then (fun f w => W P n y Q f w) Q) (l.drop k) (runG P n w l.toArray (l.take k) f) w) : W P n (.seq (.region id l.toArray false) y) Q f w := W_seq (W_region (L_g k hs h))
theorem Calls_W (n : Nat) (fn : Func) {k : FuncId} {c : Code} {args : List Value} {R : Value × AH → Prop} (h : W P n c (Done P n fn R) (entry args) w)
    (hf : P.funcs[k]? = some fn := by kernel_rfl) (hb : fn.body = some c := by exact rfl) (hn : fn.ntmps = n := by exact rfl) (hl : args.length ≤ n := by exact Nat.le_of_ble_eq_true rfl) (ht : T.Ok n := by trivial) (hk : (Kn.f P ≠ some k ∨ args ≠ []) ∧ Kn.g P k args w = none := by exact ⟨.inr (by simp), rfl⟩) : Calls P k args w R := Calls_of_W hf hb hn hl ht hk h
end Go.Arm
namespace Go.Proofs.YtjhbbdfbngbjcaaGreatDoor
noncomputable section
open Go Go.X Go.Arm
abbrev ptr (b : Nat) : Value := .pointer (some ⟨b, 0, none⟩)
theorem kNum : KeyK Tryz.prog 3 nv := KeyK.int kr (fun e k => by kernel_rfl)
theorem pr_un {t : TypeId} {d : TypeDesc} {P : Program} (h : P.underlying t = some d) : pureRun P (underlying t) = some d := by
 simp only [underlying]; exact pureRun_and (e := Sem.program .pure) (a := P) rfl (by simp only [h]; rfl)
theorem eqIn_int {P : Program} (d : Nat) (t : TypeId) (k k' : IntKind) (a b : Int) (h : P.underlying t = some (.int k')) : pureRun P (Op.equalIn (d + 1) t (.int k a) (.int k b)) = some (a == b) := by
 rw [Op.equalIn]
 refine pureRun_and (pr_un h) ?_
 simp only [if_true]; rfl
noncomputable def fld (T i : Nat) : Field := match Tryz.prog.underlying T with | some (.struct fs) => (fs.toList[i]?).getD default | _ => default
theorem eq_msg (a c : Int × Int × Int) : pureRun Tryz.prog (Op.equal 159 (k3 a) (k3 c)) = some (decide (a = c)) := by
 have hu : ∃ f1 f2 f3 : Field, Tryz.prog.underlying 159 = some (.struct ⟨[f1, f2, f3]⟩) ∧ f1.name ≠ "_" ∧ f2.name ≠ "_" ∧ f3.name ≠ "_" ∧ f1.type = 3 ∧ f2.type = 3 ∧ f3.type = 3 ∧ f1.offset = 0 ∧ f2.offset = 1 ∧ f3.offset = 2 :=
   ⟨fld 159 0, fld 159 1, fld 159 2, kr, by decide +kernel, by decide +kernel, by decide +kernel, kr, kr, kr, kr, kr, kr⟩
 obtain ⟨f1, f2, f3, hu, n1, n2, n3, t1, t2, t3, o1, o2, o3⟩ := hu
 have hi : Tryz.prog.underlying 3 = some (.int .i64) := by kernel_rfl
 unfold Op.equal
 show pureRun _ (Op.equalIn (9999 + 1) _ _ _) = _
 unfold k3 nv
 rw [Op.equalIn]
 refine pureRun_and (pr_un hu) ?_
 dsimp only
 refine pureRun_and (e := program) (a := Tryz.prog) rfl ?_
 rw [if_neg (by decide +kernel)]
 rw [← Array.forIn_toList]
 simp only [List.forIn_cons, List.forIn_nil, n1, n2, n3, t1, t2, t3, o1, o2, o3, if_true, ne_eq, not_false_eq_true]
 have p0 : ∀ v w u : Value, pureRun Tryz.prog (part 3 ⟨[v, w, u]⟩ 0) = some v := fun v w u => by kernel_rfl
 have p1 : ∀ v w u : Value, pureRun Tryz.prog (part 3 ⟨[v, w, u]⟩ 1) = some w := fun v w u => by kernel_rfl
 have p2 : ∀ v w u : Value, pureRun Tryz.prog (part 3 ⟨[v, w, u]⟩ 2) = some u := fun v w u => by kernel_rfl
 have q1 := eqIn_int (P := Tryz.prog) 9998 3 .i64 .i64 a.1 c.1 hi
 have q2 := eqIn_int (P := Tryz.prog) 9998 3 .i64 .i64 a.2.1 c.2.1 hi
 have q3 := eqIn_int (P := Tryz.prog) 9998 3 .i64 .i64 a.2.2 c.2.2 hi
 by_cases h1 : a.1 = c.1
 · have b1 : (a.1 == c.1) = true := by simpa using h1
   rw [b1] at q1
   by_cases h2 : a.2.1 = c.2.1
   · have b2 : (a.2.1 == c.2.1) = true := by simpa using h2
     rw [b2] at q2
     by_cases h3 : a.2.2 = c.2.2
     · have b3 : (a.2.2 == c.2.2) = true := by simpa using h3
       rw [b3] at q3
       have hd : decide (a = c) = true := by simp [Prod.ext_iff, h1, h2, h3]
       rw [hd]
       exact pureRun_and (a := (none, ())) (pureRun_and (a := ForInStep.yield (none, ())) (pureRun_and (p0 _ _ _) (pureRun_and (p0 _ _ _) (pureRun_and q1 rfl))) (pureRun_and (a := ForInStep.yield (none, ())) (pureRun_and (p1 _ _ _) (pureRun_and (p1 _ _ _) (pureRun_and q2 rfl))) (pureRun_and (a := ForInStep.yield (none, ())) (pureRun_and (p2 _ _ _) (pureRun_and (p2 _ _ _) (pureRun_and q3 rfl))) rfl))) rfl
     · have b3 : (a.2.2 == c.2.2) = false := by simpa using h3
       rw [b3] at q3
       have hd : decide (a = c) = false := by simp [Prod.ext_iff, h3]
       rw [hd]
       exact pureRun_and (a := (some false, ())) (pureRun_and (a := ForInStep.yield (none, ())) (pureRun_and (p0 _ _ _) (pureRun_and (p0 _ _ _) (pureRun_and q1 rfl))) (pureRun_and (a := ForInStep.yield (none, ())) (pureRun_and (p1 _ _ _) (pureRun_and (p1 _ _ _) (pureRun_and q2 rfl))) (pureRun_and (a := ForInStep.done (some false, ())) (pureRun_and (p2 _ _ _) (pureRun_and (p2 _ _ _) (pureRun_and q3 rfl))) rfl))) rfl
   · have b2 : (a.2.1 == c.2.1) = false := by simpa using h2
     rw [b2] at q2
     have hd : decide (a = c) = false := by simp [Prod.ext_iff, h2]
     rw [hd]
     exact pureRun_and (a := (some false, ())) (pureRun_and (a := ForInStep.yield (none, ())) (pureRun_and (p0 _ _ _) (pureRun_and (p0 _ _ _) (pureRun_and q1 rfl))) (pureRun_and (a := ForInStep.done (some false, ())) (pureRun_and (p1 _ _ _) (pureRun_and (p1 _ _ _) (pureRun_and q2 rfl))) rfl)) rfl
 · have b1 : (a.1 == c.1) = false := by simpa using h1
   rw [b1] at q1
   have hd : decide (a = c) = false := by simp [Prod.ext_iff, h1]
   rw [hd]
   exact pureRun_and (a := (some false, ())) (pureRun_and (a := ForInStep.done (some false, ())) (pureRun_and (p0 _ _ _) (pureRun_and (p0 _ _ _) (pureRun_and q1 rfl))) rfl) rfl
theorem kMsg : KeyK Tryz.prog 159 k3 := by
 refine KeyK.ask (fs := ⟨[fld 159 0, fld 159 1, fld 159 2]⟩) kr (fun k => rfl) (fun e k => by kernel_rfl) eq_msg (fun k => ?_)
 unfold stays
 unfold k3 nv
 rw [Instr.sameBits]
 simp [Instr.sameBits]
theorem uSent : Tryz.prog.underlying 87 = some (.map 159 91) := by kernel_rfl
theorem uMeets : Tryz.prog.underlying 88 = some (.map 3 32) := by kernel_rfl
theorem zStep : zeroOf Tryz.prog 91 = some (.agg ⟨[nv 0, nv 0]⟩) := by kernel_rfl
theorem zSteps : zeroOf Tryz.prog 32 = some (.slice none 0 0) := by kernel_rfl
theorem lookSent {h : AH} {sb : Nat} {m : List ((Int × Int × Int) × (Int × Int))} (H : Mp h sb k3 r2 m) (k : Int × Int × Int) (c : Bool) :
   aLookup Tryz.prog 87 (.map (some sb)) (k3 k) c h = some (tupOk c (.agg ⟨[nv ((kget m k).getD (0, 0)).1, nv ((kget m k).getD (0, 0)).2]⟩) (kget m k).isSome) := by
 rcases H.lookup uSent kMsg zStep k c with ⟨h1, h2⟩ | ⟨v, x, h1, h2, h3⟩
 · rw [h1, h2]; rfl
 · rw [h1, h3, show v = _ from h2]; rfl
theorem lookMeets {h : AH} {F : Nat → Prop} {mb : Nat} {m : List (Int × List (Nat × Nat))} (H : Mp h mb nv (Rst h F) m) (k : Int) :
   ∃ v, aLookup Tryz.prog 88 (.map (some mb)) (nv k) false h = some v ∧ Rst h F v ((kget m k).getD []) := by
 rcases H.lookup uMeets kNum zSteps k false with ⟨h1, h2⟩ | ⟨v, x, h1, h2, h3⟩
 · exact ⟨_, h2, by rw [h1]; exact ⟨Sd.nil, fun b hb => by cases hb⟩⟩
 · exact ⟨v, h3, by rw [h1]; exact h2⟩
end
end Go.Proofs.YtjhbbdfbngbjcaaGreatDoor
namespace Go.Arm
noncomputable section
open Go Go.X
section
variable {P : Program} {h h' : AH} {S : Nat → Prop} {b : Nat} {T : TypeId} {k v : Value}
def Mb (h : AH) (b : Nat) : Prop := ∃ es cl, h.m.get b = some (.map es cl false) ∧ (es.map (·.2.2)).Nodup ∧ ∀ e, e ∈ es → e.2.2 < cl
theorem Mb.sm (H : Mb h b) (s : Sm S h h') (hl : b < h.next) (hb : ¬ S b) : Mb h' b := by
 obtain ⟨es, cl, h1, h2⟩ := H
 exact ⟨es, cl, (s.get b hl hb).trans h1, h2⟩
theorem Mb.new (h : AH) : Mb (h.push (.map [] 0 false)) h.next := ⟨[], 0, push_get _ _, by simp, fun e he => by cases he⟩
theorem setV_age : ∀ (es : List (Value × Value × Nat)) (i : Nat) (k v : Value), (setV es i k v).map (·.2.2) = es.map (·.2.2)
 | [], i, k, v => by unfold setV; cases i <;> rfl
 | e :: es, 0, k, v => by unfold setV; rfl
 | e :: es, i + 1, k, v => by
  have := setV_age es i k v
  unfold setV
  simp only [List.map_cons, this]
theorem Mb.update (H : Mb h b) (hu : aUpdate P T (.map (some b)) k v h = some h') : Mb h' b := by
 obtain ⟨es, cl, h1, h2, h3⟩ := H
 have got : ∀ es cl, (aSetMap h b es cl).m.get b = some (.map es cl false) := fun es cl => by show (h.m.set b _).get b = _; rw [X.T.get_set, if_pos rfl]
 unfold aUpdate at hu
 split at hu
 · rename_i hu2 _
   rename_i hb
   cases hb
   rw [h1] at hu
   dsimp only at hu
   split at hu
   · split at hu
     · rename_i i hi
       split at hu
       · split at hu
         · cases hu
           refine ⟨_, _, got _ _, by rw [setV_age]; exact h2, fun e he => ?_⟩
           have : e.2.2 ∈ (setV es i k v).map (·.2.2) := List.mem_map.2 ⟨e, he, rfl⟩
           rw [setV_age] at this
           obtain ⟨e', he', h5⟩ := List.mem_map.1 this
           rw [← h5]; exact h3 e' he'
         · cases hu
       · cases hu
     · cases hu
       refine ⟨_, _, got _ _, ?_, fun e he => ?_⟩
       · rw [List.map_append, List.nodup_append]
         refine ⟨h2, by simp, fun a ha c hc => ?_⟩
         obtain ⟨e, he, rfl⟩ := List.mem_map.1 ha
         have := h3 e he
         simp only [List.map_cons, List.map_nil, List.mem_singleton] at hc
         omega
       · rcases List.mem_append.1 he with he | he
         · have := h3 e he; omega
         · cases List.mem_singleton.1 he; exact Nat.lt_succ_self _
     · cases hu
   · cases hu
 · cases hu
end
section
variable {P : Program} {h h' : AH} {S : Nat → Prop} {it b c : Nat} {κ β : Type} {kv : κ → Value} {R : Value → β → Prop} {m : List (κ × β)} {dn : Nat → Prop}
theorem Mr.atI {es : List (Value × Value × Nat)} (hr : Mr kv R es m) : ∀ {i : Nat} {e : Value × Value × Nat}, es[i]? = some e → ∃ x, m[i]? = some x ∧ e.1 = kv x.1 ∧ R e.2.1 x.2 := by
 induction hr with
 | nil => intro i e h; simp at h
 | cons hk hv _ ih =>
  intro i e h
  cases i with
  | zero => simp at h; subst h; exact ⟨_, rfl, hk, hv⟩
  | succ i => simp at h; simpa using ih h
def leftOf (es : List (Value × Value × Nat)) (seen : List Nat) : List (Value × Value × Nat) := es.filter fun e => !seen.contains e.2.2
def Itr (h : AH) (it b : Nat) (kv : κ → Value) (R : Value → β → Prop) (m : List (κ × β)) (dn : Nat → Prop) (c : Nat) : Prop :=
 ∃ es cl seen, h.m.get b = some (.map es cl false) ∧ Mr kv R es m ∧ (es.map (·.2.2)).Nodup ∧ (∀ e, e ∈ es → e.2.2 < cl) ∧ h.m.get it = some (.iter (some b) cl seen cl) ∧
  (∀ i e, es[i]? = some e → (e.2.2 ∈ seen ↔ dn i)) ∧ b < h.next ∧ it < h.next ∧ it ≠ b ∧ c = (leftOf es seen).length
theorem Itr.sm (H : Itr h it b kv R m dn c) (s : Sm S h h') (hb : ¬ S b) (hi : ¬ S it) : Itr h' it b kv R m dn c := by
 obtain ⟨es, cl, seen, h1, h2, h3, h4, h5, h6, h7, h8, h9⟩ := H
 exact ⟨es, cl, seen, (s.get b h7 hb).trans h1, h2, h3, h4, (s.get it h8 hi).trans h5, h6, Nat.lt_of_lt_of_le h7 s.nx, Nat.lt_of_lt_of_le h8 s.nx, h9⟩
theorem Itr.lt (H : Itr h it b kv R m dn c) : it < h.next := by
 obtain ⟨es, cl, seen, h1, h2, h3, h4, h5, h6, h7, h8, h9⟩ := H
 exact h8
theorem Itr.start {T kt el : TypeId} (hT : P.underlying T = some (.map kt el)) (hm : Mp h b kv R m) (hb : Mb h b) :
   ∃ h', aRange P T (.map (some b)) h = some (.pointer (some ⟨h.next, 0, none⟩), h') ∧ (∃ c, Itr h' h.next b kv R m (fun _ => False) c) ∧ Sm Nix h h' ∧ h'.next = h.next + 1 := by
 obtain ⟨hl, es, cl, h1, h2⟩ := hm
 obtain ⟨es', cl', h3, h4, h5⟩ := hb
 rw [h1] at h3
 cases h3
 unfold aRange
 simp only [hT, h1]
 refine ⟨h.push (.iter (some b) cl [] cl), rfl, ⟨_, es, cl, [], ?_, h2, h4, h5, push_get _ _, fun i e _ => ?_, Nat.lt_succ_of_lt hl, Nat.lt_succ_self _, by omega, rfl⟩, .push _ _, rfl⟩
 · exact ((Sm.push h (.iter (some b) cl [] cl)).get b hl (fun x => x)).trans h1
 · simp
theorem filter_lt {α : Type} (p q : α → Bool) (hpq : ∀ x, q x = true → p x = true) : ∀ (l : List α) (a : α), a ∈ l → p a = true → q a = false → (l.filter q).length < (l.filter p).length
 | [], a, h, _, _ => by cases h
 | x :: l, a, h, hp, hq => by
  have le : ∀ l : List α, (l.filter q).length ≤ (l.filter p).length := by
    intro l
    induction l with
    | nil => exact Nat.le_refl _
    | cons y l ih =>
      rw [List.filter_cons, List.filter_cons]
      by_cases hy : q y = true
      · rw [if_pos hy, if_pos (hpq y hy)]; simp; exact ih
      · rw [if_neg hy]; split
        · simp; omega
        · exact ih
  rw [List.filter_cons, List.filter_cons]
  rcases List.mem_cons.1 h with rfl | h
  · rw [if_pos hp, if_neg (by rw [hq]; simp)]
    have := le l; simp; omega
  · have ih := filter_lt p q hpq l a h hp hq
    by_cases hy : q x = true
    · rw [if_pos hy, if_pos (hpq x hy)]; simp; exact ih
    · rw [if_neg hy]; split
      · simp; omega
      · exact ih
theorem find_age : ∀ (es : List (Value × Value × Nat)) (e : Value × Value × Nat), (es.map (·.2.2)).Nodup → e ∈ es → es.find? (fun x => x.2.2 == e.2.2) = some e
 | [], e, _, h => by cases h
 | x :: es, e, hn, h => by
  rw [List.map_cons, List.nodup_cons] at hn
  rw [List.find?_cons]
  rcases List.mem_cons.1 h with rfl | h
  · simp
  · have hne : x.2.2 ≠ e.2.2 := fun h5 => hn.1 (by rw [h5]; exact List.mem_map.2 ⟨e, h, rfl⟩)
    have : (x.2.2 == e.2.2) = false := by simpa using hne
    rw [this]
    exact find_age es e hn.2 h
theorem Itr.next (H : Itr h it b kv R m dn c) : ∃ l, aNext (.pointer (some ⟨it, 0, none⟩)) false h = some l ∧ ∀ p, p ∈ l →
   (p = (.tuple ⟨[.bool false]⟩, h) ∧ ∀ i, i < m.length → dn i) ∨
   ∃ i x v c', m[i]? = some x ∧ ¬ dn i ∧ R v x.2 ∧ p.1 = .tuple ⟨[.bool true, kv x.1, v]⟩ ∧ c' < c ∧ Itr p.2 it b kv R m (fun j => j = i ∨ dn j) c' ∧ Sm (fun x => x = it) h p.2 ∧ p.2.next = h.next ∧ aEntryIt (.pointer (some ⟨it, 0, none⟩)) p.2 = some (.tuple ⟨[kv x.1, v]⟩) := by
 obtain ⟨es, cl, seen, h1, h2, h3, h4, h5, h6, h7, h8, h9, hc⟩ := H
 unfold aNext
 simp only [h5, h1]
 have hno : (!seen.isEmpty && !es.isEmpty && es.all fun e => decide (e.2.2 ≥ cl)) = false := by
   cases es with
   | nil => simp
   | cons e es =>
     have := h4 e (by simp)
     have : ¬ e.2.2 ≥ cl := by omega
     simp [this]
 rw [hno]
 refine ⟨_, rfl, fun p hp => ?_⟩
 unfold nextOuts at hp
 have hold : (es.filter fun e => !seen.contains e.2.2).filter (fun e => decide (e.2.2 < cl)) = es.filter fun e => !seen.contains e.2.2 := by
   refine List.filter_eq_self.2 fun e he => ?_
   simpa using h4 e (List.mem_filter.1 he).1
 have hnew : (es.filter fun e => !seen.contains e.2.2).filter (fun e => !decide (e.2.2 < cl)) = [] := by
   refine List.filter_eq_nil_iff.2 fun e he => ?_
   simpa using h4 e (List.mem_filter.1 he).1
 dsimp only at hp
 rw [hold, hnew, List.append_nil] at hp
 rcases List.mem_append.1 hp with hp | hp
 · split at hp
   · rename_i he
     cases List.mem_singleton.1 hp
     refine .inl ⟨rfl, fun i hi => ?_⟩
     rw [← h2.length] at hi
     have hg : es[i]? = some es[i] := List.getElem?_eq_getElem hi
     refine (h6 i _ hg).1 ?_
     rw [List.isEmpty_iff, List.filter_eq_nil_iff] at he
     have := he es[i] (List.getElem_mem hi)
     simpa using this
   · cases hp
 · obtain ⟨e, he, rfl⟩ := List.mem_map.1 hp
   obtain ⟨he1, he2⟩ := List.mem_filter.1 he
   obtain ⟨i, hi, hie⟩ := List.getElem_of_mem he1
   have hg : es[i]? = some e := by rw [List.getElem?_eq_getElem hi, hie]
   obtain ⟨x, hx, hk, hv⟩ := h2.atI hg
   have hns : ¬ e.2.2 ∈ seen := by simpa using he2
   refine .inr ⟨i, x, e.2.1, _, hx, fun hd => hns ((h6 i e hg).2 hd), hv, by rw [hk], ?_, ⟨es, cl, seen ++ [e.2.2], ?_, h2, h3, h4, ?_, fun j e' hj => ?_, h7, h8, h9, rfl⟩, ⟨Nat.le_refl _, fun y _ hn => ?_⟩, rfl, ?_⟩
   · rw [hc]
     refine filter_lt _ _ (fun y hy => ?_) es e he1 he2 (by simp)
     simp at hy ⊢
     exact hy.1
   · show (h.m.set it _).get b = _
     rw [X.T.get_set, if_neg (fun e => h9 e.symm)]; exact h1
   · show (h.m.set it _).get it = _
     rw [X.T.get_set, if_pos rfl]
   · rw [List.mem_append, List.mem_singleton, h6 j e' hj]
     constructor
     · rintro (h | h)
       · exact .inr h
       · refine .inl ?_
         have hjl := (List.getElem?_eq_some_iff.1 hj).1
         have h10 : (es.map (·.2.2))[j]'(by simpa using hjl) = (es.map (·.2.2))[i]'(by simpa using hi) := by
          rw [List.getElem_map, List.getElem_map, hie, (List.getElem?_eq_some_iff.1 hj).2]; exact h
         exact (List.getElem_inj h3).1 h10
     · rintro (rfl | h)
       · rw [hg] at hj; cases hj; exact .inr rfl
       · exact .inl h
   · show (h.m.set it _).get y = _
     rw [X.T.get_set, if_neg hn]
   · have g1 : ({ h with m := h.m.set it (some (.iter (some b) cl (seen ++ [e.2.2]) cl)) } : AH).m.get it = some (.iter (some b) cl (seen ++ [e.2.2]) cl) := by
       show (h.m.set it _).get it = _
       rw [X.T.get_set, if_pos rfl]
     have g2 : ({ h with m := h.m.set it (some (.iter (some b) cl (seen ++ [e.2.2]) cl)) } : AH).m.get b = some (.map es cl false) := by
       show (h.m.set it _).get b = _
       rw [X.T.get_set, if_neg (fun e => h9 e.symm)]; exact h1
     unfold aEntryIt
     dsimp only
     simp only [g1, g2, List.getLast?_append, List.getLast?_singleton, Option.some_or, if_true, find_age es e h3 he1]
     rw [hk]
end
section
variable {P : Program} [Kn P] {n : Nat} {ops : Array Oper} {Q : Post} {o : Oper} {rest : List Oper} {f : Fr} {h : AH} {it b c : Nat} {κ β : Type} {kv : κ → Value} {R : Value → β → Prop} {m : List (κ × β)} {dn : Nat → Prop}
theorem L_rg {T : TypeId} {x : Operand} {a v : Value} (h' : AH) (ho : o.op = .range T x) (hs : okO n o = true) (ha : ev n f x = some a) (hv : aRange P T a h = some (v, h'))
  (k : L P n ops Q rest (updO f o.dst v) h') : L P n ops Q (o :: rest) f h :=
 L_dov (okO_ok hs).1 (okO_ok hs).2 (by rw [ho]; rfl) (by rw [ho]; simp only [evAct, ha, hv]; rfl) k
theorem L_nx {x : Operand} (ho : o.op = .next x false) (hs : okO n o = true) (ha : ev n f x = some (.pointer (some ⟨it, 0, none⟩))) (H : Itr h it b kv R m dn c)
   (k0 : (∀ i, i < m.length → dn i) → L P n ops Q rest (updO f o.dst (.tuple ⟨[.bool false]⟩)) h)
   (k1 : ∀ i x v c' h', m[i]? = some x → ¬ dn i → R v x.2 → c' < c → Itr h' it b kv R m (fun j => j = i ∨ dn j) c' → Sm (fun x => x = it) h h' → h'.next = h.next → aEntryIt (.pointer (some ⟨it, 0, none⟩)) h' = some (.tuple ⟨[kv x.1, v]⟩) → L P n ops Q rest (updO f o.dst (.tuple ⟨[.bool true, kv x.1, v]⟩)) h') :
   L P n ops Q (o :: rest) f h := by
 obtain ⟨l, hl, hp⟩ := H.next
 refine L_any (l := l.map fun p => (.val p.1, p.2)) (okO_ok hs).1 (okO_ok hs).2 (by rw [ho]; rfl) (by rw [ho]; simp only [evAct, ha, hl]; rfl) fun p hm => ?_
 obtain ⟨q, hq, rfl⟩ := List.mem_map.1 hm
 refine ⟨_, rfl, ?_⟩
 rcases hp q hq with ⟨rfl, h1⟩ | ⟨i, x, v, c', h1, h2, h3, h4, h5, h6, h7, h8, h10⟩
 · exact k0 h1
 · dsimp only
   rw [h4]
   exact k1 i x v c' q.2 h1 h2 h3 h5 h6 h7 h8 h10
end
end
end Go.Arm
namespace Go.Arm
noncomputable section
open Go Go.X
section
variable {P : Program} {n : Nat} {T el : TypeId}
theorem ev_mkK {f : Fr} {x y : Operand} {m by_ k : Nat} {z : Value} (hT : P.underlying T = some (.slice el)) (hs : szOf P el = some k) (hb : byOf P el = some by_) (hz : zeroOf P el = some z) (hzl : (cellsL z).length = k) (hm : m * (by_ + 1) < 1099511627776)
  (hx : ev n f x = some (.int .i64 (m : Nat))) (hy : ev n f y = some (.int .i64 (m : Nat))) : evAl P n f (.makeSlice T x y) = some (.cells (zrep m (cellsL z)), .sl m m) := by
 have hm2 : m < 1099511627776 := by
  have : m * 1 ≤ m * (by_ + 1) := Nat.mul_le_mul_left _ (by omega)
  omega
 have e0 : evAl0 P n f (.makeSlice T x y) = some (.cells (zrep m (cellsL z)), .sl m m) := by
  unfold evAl0
  simp only [hx, hy, hT, hs, hb, hz]
  rw [if_pos ⟨by omega, by omega, by
   have h9 : ((m * (by_ + 1) : Nat) : Int) < ((1099511627776 : Nat) : Int) := Int.ofNat_lt.2 hm
   rw [Int.natCast_mul, Int.natCast_add] at h9
   exact h9, hzl⟩]
  simp only [Int.toNat_natCast]
 unfold evAl
 rw [e0]
 dsimp only
 rw [if_pos]
 show decide (m < open_) = true
 rw [decide_eq_true_eq]
 have : 1099511627776 < open_ := by decide
 omega
theorem zrep_flat {α : Type} (f : α → List Value) (a : α) : ∀ n, zrep n (f a) = (List.replicate n a).flatMap f
 | 0 => rfl
 | n + 1 => by rw [zrep, List.replicate_succ, List.flatMap_cons, zrep_flat f a n]
end
end
end Go.Arm
namespace Go.Arm
noncomputable section
open Go Go.X
theorem kget_put {κ β : Type} [DecidableEq κ] : ∀ (l : List (κ × β)) (k k' : κ) (y : β), kget (kset l k y) k' = if k' = k then some y else kget l k'
 | [], k, k', y => by
  unfold kset
  simp only [kget]
  by_cases e : k = k'
  · rw [if_pos e, if_pos e.symm]
  · rw [if_neg e, if_neg (fun h => e h.symm)]
 | e :: l, k, k', y => by
  unfold kset
  split
  · rename_i h1
    simp only [kget]
    by_cases h2 : k = k'
    · rw [if_pos h2, if_pos h2.symm]
    · rw [if_neg h2, if_neg (fun h => h2 h.symm), if_neg (by rw [h1]; exact h2)]
  · rename_i h1
    simp only [kget]
    by_cases h2 : e.1 = k'
    · rw [if_pos h2, if_pos h2, if_neg (fun h => h1 (h2.trans h))]
    · rw [if_neg h2, if_neg h2, kget_put l k k' y]
def nilS : Value := .slice none 0 0
def mvV (mv : List (Int × Value)) (no : Int) : Value := (kget mv no).getD nilS
def eqV (v y : Value) : Prop := v = y
structure MX (h : AH) (mb : Nat) (av : Nat → Prop) (mv : List (Int × Value)) (M : Int → List (Nat × Nat)) : Prop where
 mp : Mp h mb nv eqV mv
 lay : Lay h (fun _ : Int => true) (fun _ => 2) (mvV mv) (fun no => (M no).length) (fun no => (M no).flatMap st2)
 lo : ∀ no b, vb (mvV mv no) = some b → ¬ av b
 al : ∀ b, av b → b < h.next
 am : av mb
section
variable {P : Program} {h h' h0 : AH} {S av av' : Nat → Prop} {mb : Nat} {mv : List (Int × Value)} {M : Int → List (Nat × Nat)} {MT ST el : TypeId}
theorem MX.new (hm : Mp h mb nv eqV []) (ha : ∀ b, av b → b < h.next) (am : av mb) : MX h mb av [] (fun _ => []) :=
 ⟨hm, ⟨fun r => Gr.nil, (fun r r' b hb => by cases hb)⟩, (fun no b hb => by cases hb), ha, am⟩
theorem MX.sm (X : MX h mb av mv M) (s : Sm S h h') (hS : ∀ b, S b → b ≠ mb ∧ (av b ∨ h.next ≤ b)) : MX h' mb av mv M :=
 ⟨X.mp.sm s (fun x => (hS _ x).1 rfl) (fun _ _ e => e), X.lay.sm s (fun r b hb x => by
  rcases (hS b x).2 with h1 | h1
  · exact X.lo r b hb h1
  · have := X.lay.lt hb; omega), X.lo, fun b hb => Nat.lt_of_lt_of_le (X.al b hb) s.nx, X.am⟩
theorem MX.ext (X : MX h mb av mv M) (s : Sm Nix h h') : MX h' mb av mv M := X.sm s (fun _ x => x.elim)
theorem MX.avoid (X : MX h mb av mv M) (s : Sm Nix h h') (ha : ∀ b, av' b → b < h'.next) (am : av' mb) (hi : ∀ b, av' b → av b ∨ h.next ≤ b) : MX h' mb av' mv M := by
 have Y := X.ext s
 exact ⟨Y.mp, Y.lay, fun no b hb hx => by
  rcases hi b hx with h1 | h1
  · exact X.lo no b hb h1
  · have := X.lay.lt hb; omega, ha, am⟩
theorem MX.eq (X : MX h mb av mv M) {M' : Int → List (Nat × Nat)} (e : ∀ no, M' no = M no) : MX h mb av mv M' := by
 have : M' = M := funext e
 rw [this]; exact X
theorem MX.look (hT : P.underlying MT = some (.map el ST)) (hK : KeyK P el nv) (hz : zeroOf P ST = some nilS) (X : MX h mb av mv M) (no : Int) : aLookup P MT (.map (some mb)) (nv no) false h = some (mvV mv no) := by
 unfold mvV
 rcases X.mp.lookup hT hK hz no false with ⟨h1, h2⟩ | ⟨v, x, h1, h2, h3⟩
 · rw [h1, h2]; rfl
 · rw [h1, h3, show v = x from h2]; rfl
theorem st2_one {e : Nat × Nat} : ∀ x, x ∈ st2 e → x.oneCell' = true := by
 intro x hx
 unfold st2 at hx
 simp only [List.mem_cons, List.not_mem_nil, or_false] at hx
 rcases hx with rfl | rfl <;> rfl
theorem MX.app {kt : TypeId} {z : Value} (hT : P.underlying MT = some (.map kt ST)) (hK : KeyK P kt nv) (hS : P.underlying ST = some (.slice el)) (hx : newsK P ST = .list) (hs : szOf P el = some 2) (hb : byOf P el = some 16) (hz : zeroOf P el = some z) (hzl : (cellsL z).length = 2) (hu8 : isU8 P el = none)
   (X : MX h mb av mv M) (t : Sm Nix h h0) {u : Value} {e : Nat × Nat} (hu : Sd h0 2 u 1 (st2 e)) (no : Int) (hl : (M no).length < 1000000000) :
   ∃ v' h1 h2, aAppend P ST ST (mvV mv no) u h0 = some (v', h1) ∧ aUpdate P MT (.map (some mb)) (nv no) v' h1 = some h2 ∧ Sm (fun b => vb (mvV mv no) = some b) h0 h1 ∧
     MX h2 mb av (kset mv no v') (ups M no (M no ++ [e])) ∧ Sm (fun b => b = mb ∨ vb (mvV mv no) = some b) h h2 ∧ Sm (fun b => b = mb) h1 h2 ∧ h2.next = h1.next := by
 have X0 := X.ext t
 have G : Gr h0 2 (mvV mv no) (M no).length ((M no).flatMap st2) := X0.lay.gr no
 obtain ⟨v', h1, e1, g1, s1, n1⟩ := G.append (P := P) (sT := ST) (xT := ST) (el := el) (by_ := 16) (z := z) (m := 1) (ds := st2 e) hS hx hs hb hz hzl (by decide) hu st2_one (by omega) hu8
 have m1 : Mp h1 mb nv eqV mv := X0.mp.sm s1 (fun hx => X0.lo no mb hx X0.am) (fun _ _ e => e)
 obtain ⟨h2, e2, m2, s2, n2⟩ := m1.update (P := P) hT hK no (v := v') (y := v') rfl
 have nv' : ∀ b, vb v' = some b → ¬ av b := fun b hb hx => by
   rcases n1 b hb with h5 | h5
   · exact X0.lo no b h5 hx
   · have := X0.al b hx; omega
 have L1 := X0.lay.put no s1 (X0.lay.own no fun b hb => .inl hb) (show Gw true h1 2 v' ((M no).length + 1) ((M no).flatMap st2 ++ st2 e) from g1) (X0.lay.fresh no n1)
 have L2 := L1.sm s2 (fun r b hb hx => by
   have hx : b = mb := hx
   by_cases hr : r = no
   · subst hr; rw [ups_at] at hb; subst hx; exact nv' _ hb X0.am
   · rw [ups_ne _ _ hr] at hb; subst hx; exact X0.lo r _ hb X0.am)
 refine ⟨v', h1, h2, e1, e2, s1, ⟨m2, L2.eq ?_ ?_ ?_, fun r b hb => ?_, fun b hb => ?_, X.am⟩, ?_, s2, n2⟩
 · funext r
   unfold mvV
   rw [kget_put]
   by_cases hr : r = no
   · subst hr; rw [if_pos rfl, ups_at]; rfl
   · rw [if_neg hr, ups_ne _ _ hr]
 · funext r
   by_cases hr : r = no
   · subst hr; rw [ups_at, ups_at]; simp
   · rw [ups_ne _ _ hr, ups_ne _ _ hr]
 · funext r
   by_cases hr : r = no
   · subst hr; rw [ups_at, ups_at]; simp
   · rw [ups_ne _ _ hr, ups_ne _ _ hr]
 · unfold mvV at hb
   rw [kget_put] at hb
   by_cases hr : r = no
   · subst hr; rw [if_pos rfl] at hb; exact nv' b hb
   · rw [if_neg hr] at hb; exact X.lo r b hb
 · have := X0.al b hb
   have := s1.nx
   have := s2.nx
   omega
 · exact (t.of.trans (s1.mono (S' := fun b => b = mb ∨ vb (mvV mv no) = some b) fun b hb => .inr hb) (fun b hb => .inl hb)).trans (s2.mono (S' := fun b => b = mb ∨ vb (mvV mv no) = some b) fun b hb => .inl hb) (fun b hb => .inl hb)
theorem MX.rst (X : MX h mb av mv M) {F : Nat → Prop} (hF : ∀ no b, vb (mvV mv no) = some b → F b) (hnd : (mv.map (·.1)).Nodup) : ∃ mt, Mp h mb nv (Rst h F) mt ∧ ∀ no, (kget mt no).getD [] = M no := by
 obtain ⟨hl, es, cl, h1, h2⟩ := X.mp
 have key : ∀ (mv' : List (Int × Value)), (∀ e, e ∈ mv' → kget mv e.1 = some e.2) → ∀ es', Mr nv eqV es' mv' → Mr nv (Rst h F) es' (mv'.map fun e => (e.1, M e.1)) := by
  intro mv'
  induction mv' with
  | nil => intro _ es' hr; cases hr; exact .nil
  | cons e mv' ih =>
   intro hk es' hr
   cases hr with
   | cons k1 v1 t1 =>
     refine .cons k1 ?_ (ih (fun x hx => hk x (by simp [hx])) _ t1)
     have hk0 := hk e (by simp)
     have hG := X.lay.gr e.1
     have hm : mvV mv e.1 = e.2 := by unfold mvV; rw [hk0]; rfl
     have v1 : _ = e.2 := v1
     rw [v1]
     refine ⟨?_, fun b hb => hF e.1 b (by rw [hm]; exact hb)⟩
     have hG : Gr h 2 (mvV mv e.1) (M e.1).length ((M e.1).flatMap st2) := hG
     rw [hm] at hG
     exact hG.sd
 have mem : ∀ (l : List (Int × Value)), (l.map (·.1)).Nodup → ∀ e, e ∈ l → kget l e.1 = some e.2 := by
  intro l
  induction l with
  | nil => intro _ e he; cases he
  | cons x l ih =>
   intro hn e he
   rw [List.map_cons, List.nodup_cons] at hn
   unfold kget
   rcases List.mem_cons.1 he with rfl | he
   · rw [if_pos rfl]
   · rw [if_neg (fun h5 => hn.1 (by rw [h5]; exact List.mem_map.2 ⟨e, he, rfl⟩))]
     exact ih hn.2 e he
 refine ⟨mv.map fun e => (e.1, M e.1), ⟨hl, es, cl, h1, key mv (mem mv hnd) es h2⟩, fun no => ?_⟩
 have hk : ∀ (l : List (Int × Value)), kget (l.map fun e => (e.1, M e.1)) no = (kget l no).map fun _ => M no := by
  intro l
  induction l with
  | nil => rfl
  | cons x l ih =>
   simp only [List.map_cons, kget]
   by_cases e : x.1 = no
   · rw [if_pos e, if_pos e, e]; rfl
   · rw [if_neg e, if_neg e, ih]
 rw [hk]
 cases hn : kget mv no with
 | some v => rfl
 | none =>
  have hG : Gr h 2 (mvV mv no) (M no).length ((M no).flatMap st2) := X.lay.gr no
  have hm : mvV mv no = nilS := by unfold mvV; rw [hn]; rfl
  rw [hm] at hG
  have h0 : (M no).length = 0 := by
   obtain ⟨_, hg⟩ := hG
   rcases hg with ⟨h0, _⟩ | ⟨b, o, cc, nn, e, _⟩
   · exact h0
   · unfold nilS at e; cases e
  rw [List.eq_nil_of_length_eq_zero h0]
  rfl
theorem kset_nodup : ∀ (l : List (Int × Value)) (k : Int) (y : Value), (l.map (·.1)).Nodup → ((kset l k y).map (·.1)).Nodup
 | [], k, y, _ => by unfold kset; simp
 | e :: l, k, y, h => by
  have key : ∀ (l : List (Int × Value)) (a : Int), a ∈ (kset l k y).map (·.1) → a = k ∨ a ∈ l.map (·.1) := by
    intro l
    induction l with
    | nil => intro a ha; unfold kset at ha; simp at ha; exact .inl ha
    | cons x l ih =>
      intro a ha
      unfold kset at ha
      split at ha
      · rename_i e5
        rw [List.map_cons] at ha
        rcases List.mem_cons.1 ha with rfl | ha
        · exact .inl rfl
        · exact .inr (by simp only [List.map_cons, List.mem_cons]; exact .inr ha)
      · rw [List.map_cons] at ha
        rcases List.mem_cons.1 ha with rfl | ha
        · exact .inr (by simp)
        · rcases ih a ha with h1 | h1
          · exact .inl h1
          · exact .inr (by simp only [List.map_cons, List.mem_cons]; exact .inr h1)
  unfold kset
  rw [List.map_cons, List.nodup_cons] at h
  split
  · rename_i e5
    rw [List.map_cons, List.nodup_cons]
    refine ⟨?_, h.2⟩
    have : (k, y).1 = e.1 := e5.symm
    rw [this]; exact h.1
  · rename_i e5
    rw [List.map_cons, List.nodup_cons]
    refine ⟨fun hx => ?_, kset_nodup l k y h.2⟩
    rcases key l _ hx with h1 | h1
    · exact e5 h1
    · exact h.1 h1
end
theorem Cl.sdK {h : AH} {b n k : Nat} {cs : List Value} (_hk : 0 < k) (hc : Cl h b cs) (hn : cs.length = n * k) : Sd h k (.slice (some ⟨b, 0, none⟩) n n) n cs := by
 refine ⟨hn, ?_⟩
 obtain ⟨h1, c, op, h2, h3⟩ := hc
 by_cases h0 : n = 0
 · exact .inl ⟨h0, some ⟨b, 0, none⟩, n, by rw [h0], (fun e => by cases e), (fun q hq => by cases hq; exact h1)⟩
 · exact .inr ⟨b, 0, n, c, cs.length, op, false, by omega, h0, rfl, h1, h2, by omega, fun j hj => by rw [Nat.zero_add]; exact h3 j hj⟩
theorem MX.weak {h : AH} {mb : Nat} {av av' : Nat → Prop} {mv : List (Int × Value)} {M : Int → List (Nat × Nat)} (X : MX h mb av mv M) (am : av' mb) (hi : ∀ b, av' b → av b) : MX h mb av' mv M :=
 ⟨X.mp, X.lay, fun no b hb hx => X.lo no b hb (hi b hx), fun b hb => X.al b (hi b hb), am⟩
theorem SpL.rowLt {P : Program} {h : AH} {hi B N b o p : Nat} {V : Option Nat → Value} {S : Sf} {T el : TypeId} (H : SpL h hi B V N S) (hT : P.underlying T = some (.slice el)) (hk : szOf P el = some 1) (hp : p < N) (e : aIndex P T (V none) (.int .i64 p) = some (.pointer (some ⟨b, o, none⟩))) : b < h.next := by
 obtain ⟨b', o', hv, h1, _⟩ := (H.lay.gr none).ws.sd.at (n := N) hT hk hp .i64
 have h1 : aIndex P T (V none) (.int .i64 p) = _ := h1
 rw [h1] at e
 cases e
 exact H.lay.lt (r := none) hv
theorem TIn.ext {h h' : AH} {F : Nat → Prop} {V : Option Nat → Value} {N : Nat} {L : Lf} (H : TIn h F V N L) (s : Sm Nix h h') : TIn h' F V N L := H.sm s (fun _ x => x.elim)
theorem TIn.rowLt {P : Program} {h : AH} {F : Nat → Prop} {N b o p : Nat} {V : Option Nat → Value} {L : Lf} {T el : TypeId} (H : TIn h F V N L) (hT : P.underlying T = some (.slice el)) (hk : szOf P el = some 1) (hp : p < N) (e : aIndex P T (V none) (.int .i64 p) = some (.pointer (some ⟨b, o, none⟩))) : b < h.next := by
 obtain ⟨b', o', hv, h1, _⟩ := H.o.at hT hk hp .i64
 rw [h1] at e
 cases e
 exact H.o.lt hv
theorem TIn.evLt {P : Program} {h : AH} {F : Nat → Prop} {N b o p i : Nat} {V : Option Nat → Value} {L : Lf} {x : TE} {T el : TypeId} (H : TIn h F V N L) (hT : P.underlying T = some (.slice el)) (hk : szOf P el = some 6) (hp : p < N) (hx : (L p)[i]? = some x) (e : aIndex P T (V (some p)) (.int .i64 i) = some (.pointer (some ⟨b, o, none⟩))) : b < h.next := by
 obtain ⟨b', o', hv, h1, _⟩ := (H.r p hp).at hT hk (List.getElem?_eq_some_iff.1 hx).1 .i64
 rw [h1] at e
 cases e
 exact (H.r p hp).lt hv
theorem Rk_i {P : Program} {n : Nat} {ops : Array Oper} {f : Fr} {h : AH} {i : Nat} {r : List Nat} {o : Oper} {op : BinOp} {T T' : TypeId} {x y : Operand} {g : Int → Int → Value} {d : Nat} (a b : Int) (v : Value) (ho : ops[i]? = some o) (hop : o.op = .binOp op T x y T') (hd : o.dst = some d) (hx : ev n f x = some (.int .i64 a)) (hy : ev n f y = some (.int .i64 b)) (hg : kInt op = some g) (hv : g a b = v) (hf : f d = v) (k : Rk P n ops f h r) : Rk P n ops f h (i :: r) :=
 Rk_v (v := v) ho hd (by rw [hop, ev_int hx hy hg, hv]) hf k
structure IT (h : AH) (F : Nat → Prop) (tb sb mb : Nat) (VL : Option Nat → Value) (sp : Value) (N : Nat) (L : Lf) (C : TC) : Prop where
 cl : Cl h tb [VL none, nv C.s, nv C.c, nv C.r, nv C.m, .map (some sb), .map (some mb), sp]
 inp : TIn h F VL N L
 ft : F tb
theorem IT.sm {h h' : AH} {F Q : Nat → Prop} {tb sb mb N : Nat} {VL : Option Nat → Value} {sp : Value} {L : Lf} {C : TC} (H : IT h F tb sb mb VL sp N L C) (t : Sm Q h h') (hQ : ∀ b, Q b → ¬ F b) : IT h' F tb sb mb VL sp N L C :=
 ⟨H.cl.sm t (fun x => hQ _ x H.ft), H.inp.sm t hQ, H.ft⟩
end
end Go.Arm
namespace Go.Arm
noncomputable section
open Go Go.X
section
variable {h h' : AH} {S : Nat → Prop} {b B N : Nat}
def VS0 (B N : Nat) : Option Nat → Value
 | none => .slice (some ⟨B, 0, none⟩) N N
 | some _ => nilS
theorem zrep_nil (N : Nat) : zrep N [Value.slice none 0 0] = (List.range N).map fun p => VS0 B N (some p) := by
 have h1 := zrep_flat (fun (_ : Unit) => [Value.slice none 0 0]) () N
 rw [h1]
 apply List.ext_getElem?
 intro i
 by_cases hi : i < N
 · have h2 := flat_get (fun (_ : Unit) => [Value.slice none 0 0]) (k := 1) (fun _ => rfl) (List.replicate N ()) i 0 (by decide)
   rw [Nat.mul_one, Nat.add_zero] at h2
   rw [h2]
   simp [hi, VS0, nilS]
 · rw [List.getElem?_eq_none (by rw [flat_len (fun (_ : Unit) => [Value.slice none 0 0]) (k := 1) (fun _ => rfl)]; simp; omega), List.getElem?_eq_none (by simp; omega)]
theorem SpL.start (c : Cl h B (zrep N [Value.slice none 0 0])) : SpL h h.next B (VS0 B N) N nil_ := by
 rw [zrep_nil (B := B)] at c
 refine ⟨⟨fun r => ?_, fun r r' b hb hb' => ?_⟩, rfl, (fun p b hb => by cases hb), c.lt, Nat.le_refl _⟩
 · cases r with
   | none => exact (Cl.ws c (by simp) : Ws h 1 _ N _)
   | some p => exact (Gr.nil : Gr h 4 nilS 0 [])
 · cases r with
   | some p => cases hb
   | none => cases r' with
    | some p => cases hb'
    | none => rfl
theorem Rst.mono {F F' : Nat → Prop} {v : Value} {l : List (Nat × Nat)} (H : Rst h F v l) (hF : ∀ b, b < h.next → F b → F' b) : Rst h F' v l := ⟨H.1, fun b hb => hF b (H.1.lt hb) (H.2 b hb)⟩
end
end
end Go.Arm
namespace Go.Arm
noncomputable section
open Go Go.X
section
variable {P : Program} {h h' : AH} {S : Nat → Prop} {b o n i k : Nat} {v : Value} {T el : TypeId}
theorem flat_set {α : Type} (f : α → List Value) (hf : ∀ a, (f a).length = k) : ∀ (l : List α) (i j : Nat) (a : α), i < l.length → j < k → ((l.set i a).flatMap f)[i * k + j]? = (f a)[j]? := by
 intro l i j a hi hj
 rw [flat_get f hf _ i j hj, List.getElem?_set, if_pos rfl, if_pos hi]
 rfl
theorem flat_ne {α : Type} (f : α → List Value) (hf : ∀ a, (f a).length = k) (l : List α) (i m : Nat) (a : α) (hm : m < i * k ∨ i * k + k ≤ m) : ((l.set i a).flatMap f)[m]? = (l.flatMap f)[m]? := by
 by_cases hk : k = 0
 · subst hk
   have h1 : ∀ l : List α, (l.flatMap f) = [] := fun l => List.eq_nil_of_length_eq_zero (by rw [flat_len f hf, Nat.mul_zero])
   rw [h1, h1]
 · have hd := Nat.div_add_mod m k
   have hr : m % k < k := Nat.mod_lt _ (by omega)
   have e : m = m / k * k + m % k := by rw [Nat.mul_comm]; exact hd.symm
   rw [e, flat_get f hf _ _ _ hr, flat_get f hf _ _ _ hr, List.getElem?_set]
   have hne : ¬ i = m / k := by
    intro e2
    rw [← e2] at e
    omega
   rw [if_neg hne]
theorem Ws.elemK {α : Type} (f : α → List Value) (hf : ∀ a, (f a).length = k) (h1 : ∀ a x, x ∈ f a → x.oneCell' = true) (_hk0 : 0 < k) {l : List α} (hT : P.underlying T = some (.slice el)) (hk : szOf P el = some k) (ha : aggT P el k = true) (hg : Ws h k v l.length (l.flatMap f)) (hi : i < l.length) (kd : IntKind) :
   ∃ q : Addr, aIndex P T v (.int kd i) = some (.pointer (some q)) ∧ aLoad P el q h = some (.agg ⟨f l[i]⟩) ∧ vb v = some q.block ∧
     ∀ a, ∃ h', aStore P el q (.agg ⟨f a⟩) h = some h' ∧ Ws h' k v l.length ((l.set i a).flatMap f) ∧ Sm (fun b => vb v = some b) h h' ∧ h'.next = h.next := by
 obtain ⟨hl, hg⟩ := hg
 rcases hg with ⟨h0, _⟩ | ⟨b, o, c, cc, nn, op, h0, h2, rfl, h3, h4, h5, h6⟩
 · omega
 · have hik : i * k + k ≤ l.length * k := by
     have : (i + 1) * k ≤ l.length * k := Nat.mul_le_mul_right _ hi
     rw [Nat.succ_mul] at this; exact this
   refine ⟨⟨b, o + i * k, none⟩, ?_, ?_, rfl, fun a => ?_⟩
   · unfold aIndex
     simp only [hT, hk]
     rw [if_pos ⟨h2, by omega, by omega⟩]
     simp
   · refine ld_l (l := f l[i]) (by rw [hf]; exact ha) (fun j hj => ?_)
     rw [hf] at hj
     have h7 : (l.flatMap f)[i * k + j]? = (f l[i])[j]? := flat_at f hf (List.getElem?_eq_getElem hi) hj
     show h.cell _ = _
     unfold AH.cell
     simp only [h4]
     rw [if_pos (by omega), show o + i * k + j = o + (i * k + j) by omega, h6 (i * k + j) (by omega), h7]
   · obtain ⟨h', cc', e1, e2, e3, e4, e5⟩ := setcs_of (o := o + i * k) (f a) 0 h4 (by rw [hf]; omega) (h1 a)
     refine ⟨h', ?_, ⟨by rw [flat_len f hf, List.length_set], .inr ⟨b, o, c, cc', nn, op, h0, h2, rfl, by rw [e4]; exact h3, e2, h5, fun m hm => ?_⟩⟩, ⟨Nat.le_of_eq e4.symm, fun x _ hx => e5 x (fun e => hx (by rw [e]; rfl))⟩, e4⟩
     · unfold aStore
       simp only [hk]
       rw [if_pos (by show (f a).length = k; exact hf a)]
       exact e1
     · rw [flat_len f hf, List.length_set] at hm
       rw [e3, hf]
       by_cases hr : i * k ≤ m ∧ m < i * k + k
       · rw [if_pos ⟨by omega, by omega⟩]
         have h8 := flat_set f hf l i (m - i * k) a hi (by omega)
         rw [show i * k + (m - i * k) = m by omega] at h8
         rw [h8]
         exact congrArg (fun t => (f a)[t]?) (by omega)
       · rw [if_neg (by omega), h6 m (by rw [flat_len f hf]; exact hm), flat_ne f hf l i m a (by omega)]
theorem ix_clK (hT : P.underlying T = some (.slice el)) (hs : szOf P el = some k) (hi : i < n) (kd : IntKind) : aIndex P T (.slice (some ⟨b, 0, none⟩) n n) (.int kd i) = some (.pointer (some ⟨b, i * k, none⟩)) := by
 unfold aIndex
 simp only [hT, hs]
 rw [if_pos ⟨by omega, by omega, by omega⟩]
 simp
theorem ix_arr {j : Nat} (hT : P.underlying T = some (.array n el)) (hs : szOf P el = some 1) (hi : j < n) (kd : IntKind) : aIndex P T (.pointer (some ⟨b, o, none⟩)) (.int kd j) = some (.pointer (some ⟨b, o + j, none⟩)) := by
 unfold aIndex
 simp only [hT, hs]
 rw [if_pos ⟨by omega, by omega⟩]
 simp
end
theorem SpL.spCell {P : Program} {h : AH} {hi B N b o p i : Nat} {V : Option Nat → Value} {S : Sf} {s : TS} {T el : TypeId} (H : SpL h hi B V N S) (hT : P.underlying T = some (.slice el)) (hk : szOf P el = some 4) (hx : (S p)[i]? = some s) (e : aIndex P T (V (some p)) (.int .i64 i) = some (.pointer (some ⟨b, o, none⟩))) {j : Nat} (hj : j < 4) : h.cell ⟨b, o + j, none⟩ = (sp4 s)[j]? := by
 obtain ⟨b', o', h1, h2⟩ := H.sp hT hk hx
 rw [h1] at e
 cases e
 exact h2 j hj
def w2 (a : Int × Int) : List Value := [nv a.1, nv a.2]
theorem w2_len (a : Int × Int) : (w2 a).length = 2 := rfl
def wAt (S : Sf) (p : Nat) (a : Int × Int) (q : Nat) : Int × Int := if q < p then waitsT (S q) else if q = p then a else (0, 0)
def wV (N : Nat) (S : Sf) (p : Nat) (a : Int × Int) : List Value := ((List.range N).map (wAt S p a)).flatMap w2
theorem wV_len (N : Nat) (S : Sf) (p : Nat) (a : Int × Int) : (wV N S p a).length = N * 2 := by unfold wV; rw [flat_len w2 w2_len]; simp
theorem wV_0 (N : Nat) (S : Sf) : zrep N [nv 0, nv 0] = wV N S 0 (0, 0) := by
 have h1 := zrep_flat w2 (0, 0) N
 show zrep N (w2 (0, 0)) = _
 rw [h1]
 unfold wV
 congr 1
 apply List.ext_getElem?
 intro i
 by_cases hi : i < N
 · simp [hi, wAt]
 · simp [hi]
theorem wV_next (N : Nat) (S : Sf) (p : Nat) : wV N S p (waitsT (S p)) = wV N S (p + 1) (0, 0) := by
 unfold wV
 congr 1
 refine List.map_congr_left fun q _ => ?_
 unfold wAt
 by_cases h1 : q < p
 · rw [if_pos h1, if_pos (by omega)]
 · by_cases h2 : q = p
   · subst h2; rw [if_neg h1, if_pos rfl, if_pos (by omega)]
   · rw [if_neg h1, if_neg h2, if_neg (by omega)]
     split <;> rfl
theorem wV_all (N : Nat) (S : Sf) : wV N S N (0, 0) = ((List.range N).map fun q => waitsT (S q)).flatMap w2 := by
 unfold wV
 congr 1
 refine List.map_congr_left fun q hq => ?_
 unfold wAt
 rw [if_pos (List.mem_range.1 hq)]
theorem wV_at {N p j : Nat} {S : Sf} {a : Int × Int} (hp : p < N) (hj : j < 2) : (wV N S p a)[p * 2 + j]? = (w2 a)[j]? := by
 unfold wV
 refine flat_at w2 w2_len (x := a) ?_ hj
 rw [List.getElem?_map, List.getElem?_range hp]
 simp [wAt]
theorem wV_set {N p j : Nat} {S : Sf} {a a' : Int × Int} {v : Value} (hp : p < N) (hj : j < 2) (_h1 : (w2 a').length = 2) (hv : (w2 a).set j v = w2 a') : (wV N S p a).set (p * 2 + j) v = wV N S p a' := by
 apply List.ext_getElem?
 intro m
 rw [List.getElem?_set, wV_len]
 by_cases hm : m < N * 2
 · have hd := Nat.div_add_mod m 2
   have e : m = m / 2 * 2 + m % 2 := by rw [Nat.mul_comm]; exact hd.symm
   have hr : m % 2 < 2 := Nat.mod_lt _ (by decide)
   have hq : m / 2 < N := by omega
   have key : ∀ a : Int × Int, (wV N S p a)[m]? = (w2 (wAt S p a (m / 2)))[m % 2]? := fun a => by
     conv => lhs; rw [e]
     unfold wV
     refine flat_at w2 w2_len (x := wAt S p a (m / 2)) ?_ hr
     rw [List.getElem?_map, List.getElem?_range hq]; rfl
   rw [key, key]
   by_cases h2 : m / 2 = p
   · have hw : ∀ a, wAt S p a (m / 2) = a := fun a => by unfold wAt; rw [h2, if_neg (Nat.lt_irrefl _), if_pos rfl]
     rw [hw, hw, ← hv, List.getElem?_set]
     by_cases h3 : j = m % 2
     · rw [if_pos (by omega), if_pos (by omega), if_pos h3, if_pos (by rw [w2_len]; exact hj)]
     · rw [if_neg (by omega), if_neg h3]
   · have hw : wAt S p a (m / 2) = wAt S p a' (m / 2) := by unfold wAt; rw [if_neg h2, if_neg h2]
     rw [if_neg (by omega), hw]
 · rw [if_neg (by omega), List.getElem?_eq_none (by rw [wV_len]; omega), List.getElem?_eq_none (by rw [wV_len]; omega)]
def lstC (S : Sf) : Option (Nat × Int) → List Value
 | none => [nv (-1), nv 0]
 | some a => [nv (a.1 : Int), nv (((S a.1).length - 1 : Nat) : Int)]
theorem lstC_len (S : Sf) (a : Option (Nat × Int)) : (lstC S a).length = 2 := by cases a <;> rfl
def endV : Option (Nat × Int) → Int
 | none => 0
 | some a => a.2
theorem lastT_nil {S : Sf} {p : Nat} (h : (S p).length = 0) : lastT S (p + 1) = lastT S p := by
 have : S p = [] := List.eq_nil_of_length_eq_zero h
 have e : (S p).getLast? = none := by rw [this]; rfl
 conv => lhs; unfold lastT
 rw [e]
theorem lastT_new {S : Sf} {p : Nat} {s : TS} (hs : (S p)[(S p).length - 1]? = some s) : lastT S (p + 1) = match lastT S p with
  | none => some (p, s.e)
  | some a => if a.2 < s.e then some (p, s.e) else some a := by
 have e : (S p).getLast? = some s := by rw [List.getLast?_eq_getElem?, hs]
 conv => lhs; unfold lastT
 rw [e]
 all_goals (cases lastT S p <;> rfl)
def rvL {α : Type} (l : List α) (k m : Nat) : Option α := if m < k ∨ l.length ≤ m + k then l[l.length - 1 - m]? else l[m]?
theorem rvL_0 {α : Type} (l : List α) (m : Nat) (hm : m < l.length) : l[m]? = rvL l 0 m := by
 unfold rvL
 rw [if_neg (by omega)]
theorem rvL_step {α : Type} {l c : List α} {k : Nat} {x y : α} (hc : c.length = l.length) (hk : k < l.length - 1 - k) (h : ∀ m, m < l.length → c[m]? = rvL l k m) (hx : c[k]? = some x) (hy : c[l.length - 1 - k]? = some y) :
   ∀ m, m < l.length → ((c.set k y).set (l.length - 1 - k) x)[m]? = rvL l (k + 1) m := by
 intro m hm
 have hx' := h k (by omega)
 have hy' := h (l.length - 1 - k) (by omega)
 unfold rvL at hx' hy'
 rw [if_neg (by omega), hx] at hx'
 rw [if_neg (by omega), hy] at hy'
 rw [List.getElem?_set, List.length_set, List.getElem?_set, hc]
 unfold rvL
 by_cases h1 : l.length - 1 - k = m
 · rw [if_pos h1, if_pos (by omega), if_pos (by omega), show l.length - 1 - m = k by omega]
   exact hx'
 · rw [if_neg h1]
   by_cases h2 : k = m
   · subst h2
     rw [if_pos rfl, if_pos (by omega), if_pos (by omega)]
     exact hy'
   · rw [if_neg h2, h m hm]
     unfold rvL
     by_cases h3 : m < k ∨ l.length ≤ m + k
     · rw [if_pos h3, if_pos (by omega)]
     · rw [if_neg h3, if_neg (by omega)]
theorem rvL_end {α : Type} {l c : List α} {k : Nat} (hc : c.length = l.length) (hk : ¬ k < l.length - 1 - k) (h : ∀ m, m < l.length → c[m]? = rvL l k m) : c = l.reverse := by
 apply List.ext_getElem?
 intro m
 by_cases hm : m < l.length
 · rw [h m hm, List.getElem?_reverse hm]
   unfold rvL
   by_cases h3 : m < k ∨ l.length ≤ m + k
   · rw [if_pos h3]
   · rw [if_neg h3, show l.length - 1 - m = m by omega]
 · rw [List.getElem?_eq_none (by omega), List.getElem?_eq_none (by rw [List.length_reverse]; omega)]
end
end Go.Arm
namespace Go.Arm
noncomputable section
open Go Go.X
structure RT (h : AH) (F : Nat → Prop) (tb : Nat) (VL : Option Nat → Value) (sp : Value) (N : Nat) (L : Lf) (C : TC) : Prop where
 cl : Cl h tb [VL none, nv C.s, nv C.c, nv C.r, nv C.m, sp]
 inp : TIn h F VL N L
 ft : F tb
section
variable {h h' : AH} {F Q : Nat → Prop} {tb N : Nat} {VL : Option Nat → Value} {sp : Value} {L : Lf} {C : TC}
theorem RT.sm (H : RT h F tb VL sp N L C) (t : Sm Q h h') (hQ : ∀ b, Q b → ¬ F b) : RT h' F tb VL sp N L C := ⟨H.cl.sm t (fun x => hQ _ x H.ft), H.inp.sm t hQ, H.ft⟩
theorem RT.ext (H : RT h F tb VL sp N L C) (t : Sm Nix h h') : RT h' F tb VL sp N L C := H.sm t (fun _ x => x.elim)
end
section
variable {P : Program} {h : AH} {k n i b o : Nat} {v : Value} {cs : List Value} {T el : TypeId}
theorem ev_at {l : List TE} {x : TE} (hT : P.underlying T = some (.slice el)) (hk : szOf P el = some 6) (G : Sd h 6 v l.length (l.flatMap ev6)) (hx : l[i]? = some x) :
  ∃ b o, aIndex P T v (.int .i64 i) = some (.pointer (some ⟨b, o, none⟩)) ∧ ∀ j, j < 6 → h.cell ⟨b, o + j, none⟩ = (ev6 x)[j]? := by
 obtain ⟨b, o, _, h1, h2⟩ := G.at hT hk (List.getElem?_eq_some_iff.1 hx).1 .i64
 exact ⟨b, o, h1, fun j hj => by rw [h2 j hj, flat_at ev6 ev6_len hx hj]⟩
theorem Sd.cellAt {j : Nat} (G : Sd h k v n cs) (hT : P.underlying T = some (.slice el)) (hk : szOf P el = some k) (hi : i < n) (e : aIndex P T v (.int .i64 i) = some (.pointer (some ⟨b, o, none⟩))) (hj : j < k) : h.cell ⟨b, o + j, none⟩ = cs[i * k + j]? := by
 obtain ⟨b', o', _, h1, h2⟩ := G.at hT hk hi .i64
 rw [h1] at e
 cases e
 exact h2 j hj
theorem evS_cell {l : List TE} {x : TE} {j : Nat} (G : Sd h 6 v l.length (l.flatMap ev6)) (hT : P.underlying T = some (.slice el)) (hk : szOf P el = some 6) (hx : l[i]? = some x) (e : aIndex P T v (.int .i64 i) = some (.pointer (some ⟨b, o, none⟩))) (hj : j < 6) : h.cell ⟨b, o + j, none⟩ = (ev6 x)[j]? := by
 obtain ⟨b', o', h1, h2⟩ := ev_at hT hk G hx
 rw [h1] at e
 cases e
 exact h2 j hj
theorem TIn.rowLd {N p : Nat} {F : Nat → Prop} {V : Option Nat → Value} {L : Lf} (H : TIn h F V N L) (hT : P.underlying T = some (.slice el)) (hk : szOf P el = some 1) (hs : scalT P el = true) (hp : p < N) (e : aIndex P T (V none) (.int .i64 p) = some (.pointer (some ⟨b, o, none⟩))) : aLoad P el ⟨b, o, none⟩ h = some (V (some p)) := by
 obtain ⟨b', o', h1, h2⟩ := H.row hT hk hs hp
 rw [h1] at e
 cases e
 exact h2
theorem TIn.evCell {N p i j : Nat} {F : Nat → Prop} {V : Option Nat → Value} {L : Lf} {x : TE} (H : TIn h F V N L) (hT : P.underlying T = some (.slice el)) (hk : szOf P el = some 6) (hp : p < N) (hx : (L p)[i]? = some x) (e : aIndex P T (V (some p)) (.int .i64 i) = some (.pointer (some ⟨b, o, none⟩))) (hj : j < 6) : h.cell ⟨b, o + j, none⟩ = (ev6 x)[j]? := by
 obtain ⟨b', o', h1, h2⟩ := H.ev hT hk hp hx
 rw [h1] at e
 cases e
 exact h2 j hj
theorem SpL.rowLd {hi B N p : Nat} {V : Option Nat → Value} {S : Sf} (H : SpL h hi B V N S) (hT : P.underlying T = some (.slice el)) (hk : szOf P el = some 1) (hs : scalT P el = true) (hp : p < N) (e : aIndex P T (V none) (.int .i64 p) = some (.pointer (some ⟨b, o, none⟩))) : aLoad P el ⟨b, o, none⟩ h = some (V (some p)) := by
 obtain ⟨b', o', h1, h2⟩ := H.row hT hk hs hp
 rw [h1] at e
 cases e
 exact h2
theorem Rk_nw {n : Nat} {ops : Array Oper} {f : Fr} {i : Nat} {r : List Nat} {o : Oper} (ho : ops[i]? = some o) (hw : wantF n ops o f = false) (k : Rk P n ops f h r) : Rk P n ops f h (i :: r) :=
 Rk_no ho (fun t ht => by rw [wantF_ok, ht]; exact hw) k
theorem flat_take {α : Type} (f : α → List Value) (hf : ∀ a, (f a).length = k) : ∀ (l : List α) (i : Nat), (l.flatMap f).take (i * k) = (l.take i).flatMap f
 | l, 0 => by simp
 | [], i + 1 => by simp
 | a :: l, i + 1 => by
  rw [List.flatMap_cons, List.take_succ_cons, List.flatMap_cons, List.take_append, hf, flat_take f hf l i |>.symm]
  rw [show (i + 1) * k - k = i * k by rw [Nat.succ_mul]; omega, List.take_of_length_le (by rw [hf, Nat.succ_mul]; omega)]
theorem Sd.first_ (hT : P.underlying T = some (.slice el)) (hk : szOf P el = some k) (G : Sd h k v n cs) (hi : i ≤ n) (h0 : 0 < n) (hc : ∃ a c, v = .slice a n c ∧ n ≤ c ∧ c < open_) :
   ∃ v', aSl P T v none (some (.int .i64 i)) none h = some v' ∧ Sd h k v' i (cs.take (i * k)) := by
 obtain ⟨a, c, hv, hnc, hco⟩ := hc
 obtain ⟨hl, hg⟩ := G
 rcases hg with ⟨h1, _⟩ | ⟨b, o, c', cc, nn, op, ro, h1, h2, e, h3, h4, h5, h6⟩
 · omega
 · rw [hv] at e
   cases e
   subst hv
   have hik : i * k ≤ n * k := Nat.mul_le_mul_right _ hi
   refine ⟨.slice (some ⟨b, o, none⟩) i c, ?_, ⟨by rw [List.length_take, hl]; omega, ?_⟩⟩
   · have : aSlice P T (.slice (some ⟨b, o, none⟩) n c) none (some (.int .i64 i)) none h = some (.slice (some ⟨b, o, none⟩) i c) := by
       unfold aSlice
       rw [if_pos (show mxOk (some (.int .i64 i)) none = true from rfl)]
       simp only [hT, hk]
       rw [if_neg (by omega)]
       have e1 : bnd none c = some c := rfl
       have e2 : bnd none 0 = some 0 := rfl
       have e3 : bnd (some (.int .i64 (i : Int))) n = some i := by
        unfold bnd
        dsimp only
        rw [if_pos (by omega)]; simp
       simp only [e1, e2, e3]
       rw [if_pos ⟨by omega, by omega, by omega, hco⟩, if_neg (by omega)]
       simp
     unfold aSl
     rw [this]
   · by_cases hi0 : i = 0
     · subst hi0
       exact .inl ⟨rfl, some ⟨b, o, none⟩, c, rfl, (fun e => by cases e), (fun q hq => by cases hq; exact h3)⟩
     · refine .inr ⟨b, o, c, cc, nn, op, ro, by omega, h2, rfl, h3, h4, by omega, fun j hj => ?_⟩
       rw [List.length_take] at hj
       rw [h6 j (by omega), List.getElem?_take, if_pos (by omega)]
end
section
variable {P : Program} {h : AH} {k n m b by_ : Nat} {cs ds : List Value} {sT xT el : TypeId} {z u : Value}
theorem append_fix (hk : 0 < k) (hc : Cl h b cs) (hn : cs.length = n * k) (h0 : 0 < n) (hno : n < open_) (hl : ds.length = m * k) :
   ∃ v' h', aAppendTo k (.slice (some ⟨b, 0, none⟩) n n) m ds h = some (v', h') ∧ Sd h' k v' (n + m) (cs ++ ds) ∧ Sm Nix h h' ∧ ∀ b', vb v' = some b' → b' = b ∨ h.next ≤ b' := by
 by_cases hm : m = 0
 · subst hm
   have hd : ds = [] := List.length_eq_zero_iff.1 (by simpa using hl)
   subst hd
   refine ⟨_, h, ?_, by simpa using Cl.sdK hk hc hn, .refl, fun b' hb => by cases hb; exact .inl rfl⟩
   unfold aAppendTo
   dsimp only
   rw [if_neg (by omega), if_pos (by omega), if_pos rfl]
 · have hold : h.cells ⟨b, 0, none⟩ 0 (n * k) = some cs := by
    have := hc.cells (o := 0) (n * k) 0 (by omega)
    rw [this]
    simp [← hn]
   obtain ⟨h', e, g, n1, o1⟩ := newo_gr h (ds := cs ++ ds) (n := n + m) hk (by rw [List.length_append, hn, hl, Nat.add_mul]) (by omega)
   refine ⟨_, h', ?_, g.sd, ⟨by omega, fun x hx _ => o1 x (by omega)⟩, fun b' hb => by cases hb; exact .inr (Nat.le_refl _)⟩
   unfold aAppendTo
   dsimp only
   rw [if_neg (by omega), if_neg (by omega), if_neg (by omega), if_neg (by omega), hold]
   dsimp only
   rw [e]
theorem append_fixA (hT : P.underlying sT = some (.slice el)) (hx : newsK P xT = .list) (hs : szOf P el = some k) (hb : byOf P el = some by_) (hz : zeroOf P el = some z) (hzl : (cellsL z).length = k) (hk : 0 < k)
  (hc : Cl h b cs) (hn : cs.length = n * k) (h0 : 0 < n) (hno : n < open_) (hu : Sd h k u m ds) (h1 : ∀ x, x ∈ ds → x.oneCell' = true) (hlim : (n + m) * (by_ + 1) < 1099511627776) (hu8 : isU8 P el = none := by kernel_rfl) :
  ∃ v' h', aAppend P sT xT (.slice (some ⟨b, 0, none⟩) n n) u h = some (v', h') ∧ Sd h' k v' (n + m) (cs ++ ds) ∧ Sm Nix h h' ∧ ∀ b', vb v' = some b' → b' = b ∨ h.next ≤ b' := by
 obtain ⟨v', h', e, g⟩ := append_fix hk hc hn h0 hno hu.1
 refine ⟨v', h', ?_, g⟩
 obtain ⟨a2, c2, e2⟩ := hu.form
 have hf := hu.first
 have hlen : lenV u = some m := by rw [e2]; rfl
 unfold aAppend
 simp only [hT, hs, hb, hz]
 unfold aNews
 simp only [hx, hlen, hf]
 have hl0 : lenV (.slice (some ⟨b, 0, none⟩) n n) = some n := rfl
 simp only [hl0]
 rw [if_pos ⟨hzl, hu.1, by rw [List.all_eq_true]; exact h1, hlim⟩]
 rw [hu8]
 exact e
end
end
end Go.Arm
