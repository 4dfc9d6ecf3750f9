/- Nodes, their laws and the walks of Check, Compile and the law. -/
import Derived.Test.YtlgakeilplnfmaaGreatDoorYi
import Derived.Test.YtlgakeilplnfmaaGreatDoorZi
import Derived.Test.YtlgakeilplnfmaaGreatDoorZg
import Derived.WalkKit
import Derived.ProofKit
import Derived.OpenShut
import Derived.Deep.Slices
import Derived.Carry
import Derived.Test.YtlgakeilplnfmaaGreatDoorZh
import Derived.Test.YtlgakeilplnfmaaGreatDoorProg
namespace Go.Proofs.YtlgakeilplnfmaaGreatDoor
open Go Go.X Go.Arm
noncomputable instance kn : Kn Tryz.prog := ⟨some 7, fun g e W => by cases e; exact worksYes W, fun _ _ _ => none, fun _ _ _ _ e => by cases e⟩
end Go.Proofs.YtlgakeilplnfmaaGreatDoor
namespace Go.Arm
noncomputable section
open Go Go.X
section
variable {P : Program} {h h' : AH} {S : Nat → Prop} {k n b : Nat} {v : Value} {cs : List Value} {T el : TypeId}
end
section
variable {h h' : AH} {S : Nat → Prop} {g : Bool} {k n : Nat} {v : Value} {cs : List Value}
end
section
variable {ρ : Type} [DecidableEq ρ] {h h' : AH} {S : Nat → Prop} {g : ρ → Bool} {k : ρ → Nat} {V : ρ → Value} {n : ρ → Nat} {cs : ρ → List Value}
end
section
variable {P : Program} {h h' : AH} {b o i n k : Nat} {cs : List Value} {v : Value} {T el : TypeId}
theorem ld_cell (hs : scalT P el = true) (hc : h.cell ⟨b, o, none⟩ = some v) : aLoad P el ⟨b, o, none⟩ h = some v := by
 unfold scalT at hs
 cases hu : P.underlying el with
 | none => rw [hu] at hs; cases hs
 | some d =>
  rw [hu] at hs
  have hs : isAg d = false := by simpa using hs
  unfold aLoad
  simp only [hu, hs]
  exact hc
end
end
end Go.Arm
namespace Go.Arm
structure TE where
 k : Int
 p : Int
 t : Int
 n : Int
 v : Int
 w : Bool
structure TS where
 b : Int
 e : Int
 w : Int
 y : Int
structure TC where
 s : Int
 c : Int
 r : Int
 m : Int
end Go.Arm
namespace Go.Arm
abbrev Lf := Nat → List TE
abbrev Sf := Nat → List TS
end Go.Arm


namespace Go.X
noncomputable section
open Go Go.RowKit
structure Held (k : IntKind) (w : World) (v : Value) (l : List Int) : Prop where
 wf : ∀ x, x ∈ l → (Lit.int k x).wf = true
 has : (v = .slice none 0 0 ∧ l = []) ∨ ∃ a cap, v = .slice (some a) l.length cap ∧ l.length ≤ cap ∧ cap ≤ maxLen ∧ (0 < cap → a.spot = none ∧ a.block < w.heap.size) ∧
  ∀ i, i < l.length → w.cell? ⟨a.block, a.off + i, none⟩ = (l[i]?).map (.int k) ∧ w.frozen? ⟨a.block, a.off + i, none⟩ = false
end
end Go.X
namespace Go.Arm
noncomputable section
open Go Go.X Go.RowKit
def First (h : AH) : Prop := ∀ b o, h.m.get b = some o → o.ro = true
theorem hold {W : World} {φ : Phi} {h : AH} (r : R W φ h W) (hf : First h) {k : IntKind} {v : Value} {l : List Int} (H : Held k W v l) :
   ∃ v' φ' h', R W φ' h' W ∧ First h' ∧ Le φ φ' ∧ VR φ' v' v ∧ Sd h' 1 v' l.length (l.map (.int k)) ∧ Sm Nix h h' := by
 have bump : R W φ ⟨h.m, h.next + 1⟩ W := ⟨r.dom, r.low, r.inj, fun b i hi => ⟨(r.lt b i hi).1, Nat.lt_succ_of_lt (r.lt b i hi).2⟩, trivial, r.below⟩
 have smb : Sm Nix h ⟨h.m, h.next + 1⟩ := ⟨Nat.le_succ _, fun _ _ _ => rfl⟩
 rcases H.has with ⟨rfl, rfl⟩ | ⟨a, cap, rfl, hlc, hcm, hpos, hall⟩
 · exact ⟨.slice none 0 0, φ, _, bump, hf, Le.refl φ, .nils 0 0, Sd.nil, smb⟩
 · by_cases h0 : cap = 0
   · subst h0
     have hl0 : l = [] := List.length_eq_zero_iff.1 (by omega)
     subst hl0
     exact ⟨.slice (some ⟨h.next, 0, none⟩) 0 0, φ, _, bump, hf, Le.refl φ, .slice0 _ _ _, ⟨rfl, .inl ⟨rfl, _, _, rfl, (fun e => by cases e), fun q hq => by cases hq; exact Nat.lt_succ_self _⟩⟩, smb⟩
   · obtain ⟨hs, hb⟩ := hpos (by omega)
     obtain ⟨bk, off, spot⟩ := a
     dsimp only at hs hb hall
     subst hs
     have hopen : cap ≠ open_ := by
       have : maxLen < open_ := by decide
       omega
     by_cases hl0 : l = []
     · subst hl0
       have le : Le φ (fun b => if b = h.next then some (⟨bk, off, 0, 0, 0⟩ : Im) else φ b) := by
         intro b j hj
         have := (r.lt b j hj).2
         show (if b = h.next then _ else φ b) = some j
         rw [if_neg (by omega)]; exact hj
       have hget : ∀ b o, h.m.get b = some o → ∀ i, (if b = h.next then some (⟨bk, off, 0, 0, 0⟩ : Im) else φ b) = some i → h.m.get b = none ∨ φ b = some i ∨ b = h.next := by
         intro b o _ i hi
         by_cases e : b = h.next
         · exact .inr (.inr e)
         · rw [if_neg e] at hi; exact .inr (.inl hi)
       have hnone : h.m.get h.next = none ∨ ∃ o, h.m.get h.next = some o := by
         cases h.m.get h.next with
         | none => exact .inl rfl
         | some o => exact .inr ⟨o, rfl⟩
       have getm : ∀ b, (h.m.set h.next none).get b = if b = h.next then none else h.m.get b := fun b => T.get_set b
       refine ⟨.slice (some ⟨h.next, 0, none⟩) 0 cap, _, ⟨h.m.set h.next none, h.next + 1⟩, ⟨fun b i o hi ho => ?_, fun b i o hi ho hr => ?_, fun b b' i i' o o' hi hi' ho ho' hr hc => ?_, fun b i hi => ?_, trivial, r.below⟩, fun b o ho => ?_, le, ?_, ⟨rfl, .inl ⟨rfl, _, _, rfl, (fun e => by cases e), fun q hq => by cases hq; exact Nat.lt_succ_self _⟩⟩, ⟨Nat.le_succ _, fun b hb _ => by show (h.m.set h.next none).get b = _; rw [getm, if_neg (by omega)]⟩⟩
       · rw [getm] at ho
         by_cases e : b = h.next
         · rw [if_pos e] at ho; cases ho
         · rw [if_neg e] at ho hi; exact (r.dom b i o hi ho).mono le
       · rw [getm] at ho
         by_cases e : b = h.next
         · rw [if_pos e] at ho; cases ho
         · rw [if_neg e] at ho hi; exact r.low b i o hi ho hr
       · rw [getm] at ho
         by_cases e : b = h.next
         · rw [if_pos e] at ho; cases ho
         · rw [if_neg e] at ho; have := hf b o ho; rw [hr] at this; cases this
       · by_cases e : b = h.next
         · rw [if_pos e] at hi; cases hi; exact ⟨hb, by subst e; exact Nat.lt_succ_self _⟩
         · rw [if_neg e] at hi; exact ⟨(r.lt b i hi).1, Nat.lt_succ_of_lt (r.lt b i hi).2⟩
       · rw [getm] at ho
         by_cases e : b = h.next
         · rw [if_pos e] at ho; cases ho
         · rw [if_neg e] at ho; exact hf b o ho
       · have := VR.slice (φ := fun b => if b = h.next then some (⟨bk, off, 0, 0, 0⟩ : Im) else φ b) (a := ⟨h.next, 0, none⟩) (l := 0) (c := cap) ⟨bk, off, 0, 0, 0⟩ (if_pos rfl) rfl hopen
         simpa using this
     · have hl1 : 0 < l.length := List.length_pos_iff.2 hl0
       have hcell := (hall 0 hl1).1
       obtain ⟨arr, el, fz, hw⟩ : ∃ arr el fz, W.heap[bk]? = some (.cells arr el fz) := by
         unfold World.cell? at hcell
         split at hcell
         · rename_i e5; exact ⟨_, _, _, e5⟩
         · rw [List.getElem?_eq_getElem hl1] at hcell; cases hcell
       have hat : ∀ j, (hj : j < l.length) → arr[j + off]? = some (.int k l[j]) := by
         intro j hj
         have := (hall j hj).1
         unfold World.cell? at this
         rw [hw] at this
         rw [List.getElem?_eq_getElem hj] at this
         rw [Nat.add_comm]; simpa using this
       have hsz : l.length + off ≤ arr.size := by
         have := (Array.getElem?_eq_some_iff.1 (hat (l.length - 1) (by omega))).1
         omega
       have le : Le φ (fun b => if b = h.next then some (⟨bk, off, l.length, arr.size, 0⟩ : Im) else φ b) := by
         intro b j hj
         have := (r.lt b j hj).2
         show (if b = h.next then _ else φ b) = some j
         rw [if_neg (by omega)]; exact hj
       have getm : ∀ b, (h.m.set h.next (some (AObj.cells (T.fill (l.map (.int k)) 0 .e) l.length 0 true))).get b = if b = h.next then some (AObj.cells (T.fill (l.map (.int k)) 0 .e) l.length 0 true) else h.m.get b := fun b => T.get_set b
       refine ⟨.slice (some ⟨h.next, 0, none⟩) l.length cap, _, ⟨h.m.set h.next (some (AObj.cells (T.fill (l.map (.int k)) 0 .e) l.length 0 true)), h.next + 1⟩, ⟨fun b i o hi ho => ?_, fun b i o hi ho hr => ?_, fun b b' i i' o o' hi hi' ho ho' hr hc => ?_, fun b i hi => ?_, trivial, r.below⟩, fun b o ho => ?_, le, ?_, ⟨by simp, .inr ⟨h.next, 0, cap, _, l.length, 0, true, hl1, h0, rfl, Nat.lt_succ_self _, by show (h.m.set h.next _).get h.next = _; rw [getm, if_pos rfl], by omega, fun j hj => ?_⟩⟩, ⟨Nat.le_succ _, fun b hb _ => by show (h.m.set h.next _).get b = _; rw [getm, if_neg (by omega)]⟩⟩
       · rw [getm] at ho
         by_cases e : b = h.next
         · rw [if_pos e] at ho hi; cases ho; cases hi
           refine ⟨rfl, rfl, trivial, arr, el, ⟨fz, hw, (fun e => by cases e), fun j hj => ?_⟩, rfl, hsz, fun j hj => ?_⟩
           · have := (hall j hj).2
             rw [Nat.add_comm] at this; exact this
           · refine ⟨.int k l[j], .int k l[j], ?_, hat j hj, .int _ _⟩
             rw [T.get_fill, if_pos (by simp; omega)]
             simp [hj]
         · rw [if_neg e] at ho hi; exact (r.dom b i o hi ho).mono le
       · rw [getm] at ho
         by_cases e : b = h.next
         · rw [if_pos e] at ho; cases ho; cases hr
         · rw [if_neg e] at ho hi; exact r.low b i o hi ho hr
       · rw [getm] at ho
         by_cases e : b = h.next
         · rw [if_pos e] at ho; cases ho; cases hr
         · rw [if_neg e] at ho; have := hf b o ho; rw [hr] at this; cases this
       · by_cases e : b = h.next
         · rw [if_pos e] at hi; cases hi; exact ⟨hb, by subst e; exact Nat.lt_succ_self _⟩
         · rw [if_neg e] at hi; exact ⟨(r.lt b i hi).1, Nat.lt_succ_of_lt (r.lt b i hi).2⟩
       · rw [getm] at ho
         by_cases e : b = h.next
         · rw [if_pos e] at ho; cases ho; rfl
         · rw [if_neg e] at ho; exact hf b o ho
       · have := VR.slice (φ := fun b => if b = h.next then some (⟨bk, off, l.length, arr.size, 0⟩ : Im) else φ b) (a := ⟨h.next, 0, none⟩) (l := l.length) (c := cap) ⟨bk, off, l.length, arr.size, 0⟩ (if_pos rfl) rfl hopen
         simpa using this
       · rw [T.get_fill, if_pos (by simp at hj ⊢; omega)]
         simp
theorem first0 : First ah0 := fun b o h => by
 have : (T.e : T AObj).get b = some o := h
 rw [T.get_e] at this; cases this
end
end Go.Arm
namespace Go.X
noncomputable section
open Go Go.RowKit
structure HeldK (k : Nat) (w : World) (v : Value) (n : Nat) (cs : List Value) : Prop where
 len : cs.length = n * k
 fl : ∀ x, x ∈ cs → ∀ φ, VR φ x x
 has : (v = .slice none 0 0 ∧ n = 0) ∨ ∃ a cap, v = .slice (some a) n cap ∧ n ≤ cap ∧ cap ≤ maxLen ∧ (0 < cap → a.spot = none ∧ a.block < w.heap.size) ∧
  ∀ i, i < cs.length → w.cell? ⟨a.block, a.off + i, none⟩ = cs[i]? ∧ w.frozen? ⟨a.block, a.off + i, none⟩ = false
theorem flat_get {α : Type} (f : α → List Value) {k : Nat} (hf : ∀ a, (f a).length = k) : ∀ (l : List α) (i j : Nat), j < k → (l.flatMap f)[i * k + j]? = (l[i]?).bind fun a => (f a)[j]?
 | [], i, j, _ => by simp
 | a :: l, 0, j, hj => by
  rw [List.flatMap_cons, Nat.zero_mul, Nat.zero_add, List.getElem?_append_left (by rw [hf]; exact hj)]
  simp
 | a :: l, i + 1, j, hj => by
  have hk : (i + 1) * k + j = k + (i * k + j) := by rw [Nat.succ_mul]; omega
  rw [List.flatMap_cons, hk, List.getElem?_append_right (by rw [hf]; omega), hf, Nat.add_sub_cancel_left, flat_get f hf l i j hj]
  simp
theorem flat_len {α : Type} (f : α → List Value) {k : Nat} (hf : ∀ a, (f a).length = k) : ∀ (l : List α), (l.flatMap f).length = l.length * k
 | [] => by simp
 | a :: l => by rw [List.flatMap_cons, List.length_append, hf, flat_len f hf l, List.length_cons, Nat.succ_mul, Nat.add_comm]
end
end Go.X
namespace Go.Arm
noncomputable section
open Go Go.X Go.RowKit
end
end Go.Arm
namespace Go.Arm
noncomputable section
open Go Go.X
def nv (x : Int) : Value := .int .i64 x
section
variable {P : Program} {h h' : AH} {S F : Nat → Prop} {b o n k : Nat} {v : Value} {cs l : List Value} {T el : TypeId}
theorem cells_l : ∀ (l : List Value) (i : Nat), (∀ j, j < l.length → h.cell ⟨b, o + (i + j), none⟩ = l[j]?) → h.cells ⟨b, o, none⟩ i l.length = some l
 | [], i, _ => rfl
 | x :: l, i, hl => by
  have ih := cells_l l (i + 1) (fun j hj => by
   have := hl (j + 1) (by simpa using hj)
   rw [show i + 1 + j = i + (j + 1) by omega]
   simpa using this)
  have h0 : h.cell ⟨b, o + i, none⟩ = some x := hl 0 (by simp)
  show h.cells ⟨b, o, none⟩ i (l.length + 1) = _
  unfold AH.cells
  dsimp only
  rw [h0, ih]
theorem ld_l (hs : aggT P el l.length = true) (hl : ∀ j, j < l.length → h.cell ⟨b, o + j, none⟩ = l[j]?) : aLoad P el ⟨b, o, none⟩ h = some (.agg ⟨l⟩) := by
 unfold aggT at hs
 cases hu : P.underlying el with
 | none => rw [hu] at hs; cases hs
 | some d =>
  rw [hu] at hs
  simp only [Bool.and_eq_true] at hs
  cases hz : szOf P el with
  | none => rw [hz] at hs; cases hs.2
  | some j =>
   rw [hz] at hs
   have : j = l.length := Nat.eq_of_beq_eq_true hs.2
   subst this
   unfold aLoad
   simp only [hu, hs.1, if_true, hz]
   rw [cells_l l 0 (fun j hj => by rw [Nat.zero_add]; exact hl j hj)]
end
section
variable {P : Program} {h h' : AH} {S F F' : Nat → Prop} {V : Option Nat → Value} {N : Nat} {L : Lf} {T el : TypeId} {p i : Nat} {x : TE}
end
section
variable {P : Program} {h h' h1 h2 : AH} {Q F F' : Nat → Prop} {V : Option Nat → Value} {N hi B : Nat} {S : Sf} {T el : TypeId} {p i : Nat} {s : TS} {v' : Value}
end
end
end Go.Arm
namespace Go.Arm
noncomputable section
open Go Go.X
section
variable {h h' : AH} {F Q : Nat → Prop} {tb sb mb N : Nat} {VL : Option Nat → Value} {sp : Value} {L : Lf} {C : TC} {mt : List (Int × List (Nat × Nat))}
theorem evR_ct {P : Program} {h : AH} {n : Nat} {f : Fr} {a : Addr} {k j : Nat} {T : TypeId} {v w : Value} (hk : Nat.blt k n = true) (hj : Nat.blt j n = true) (hf : f k = .pointer (some a)) (hl : aLoad P T a h = some v) (h2 : f j = w) : evR P n f h [.cell k T, .tmp j] = some (.tuple ⟨[v, w]⟩) := by
 have e1 : evR1 P n f h (.cell k T) = some v := by unfold evR1; simp only [hk, hf]; exact hl
 have e3 : evR1 P n f h (.tmp j) = some w := by unfold evR1; simp only [hj, h2]
 unfold evR evRL evRL evRL
 rw [e1, e3]
theorem Cl.all {P : Program} {h : AH} {b : Nat} {l : List Value} {T : TypeId} (hc : Cl h b l) (hT : aggT P T l.length = true) : aLoad P T ⟨b, 0, none⟩ h = some (.agg ⟨l⟩) := by
 have := hc.ldS (o := 0) hT (by omega)
 rw [List.drop_zero, List.take_length] at this
 exact this
theorem Cl.allN {P : Program} {h : AH} {b n : Nat} {l : List Value} {T : TypeId} (hc : Cl h b l) (hl : l.length = n) (hT : aggT P T n = true) : aLoad P T ⟨b, 0, none⟩ h = some (.agg ⟨l⟩) := hc.all (by rw [hl]; exact hT)
theorem Cl.storeN {P : Program} {h : AH} {b n : Nat} {l cs : List Value} {T : TypeId} {v : Value} (hc : Cl h b l) (hl : l.length = n) (hz : szOf P T = some n) (hv : cellsL v = cs) (hcs : cs.length = n) (h1 : ∀ v, v ∈ cs → v.oneCell' = true) :
 ∃ h', aStore P T ⟨b, 0, none⟩ v h = some h' ∧ Cl h' b cs ∧ Sm (fun k => k = b) h h' ∧ h'.next = h.next := hc.storeS (by rw [hl]; exact hz) hv (by rw [hl, hcs]) h1
theorem wrap_id {a : Int} (h0 : -4611686018427387904 ≤ a) (h1 : a < 4611686018427387904) : Value.int .i64 (IntKind.i64.wrap a) = nv a := by
 have : IntKind.i64.wrap a = a := by rw [IntKind.wrap_i64]; omega
 rw [this]; rfl
end
theorem L_in {P : Program} [Kn P] {n : Nat} {ops : Array Oper} {Q : Post} {o : Oper} {rest : List Oper} {f : Fr} {h : AH} {T : TypeId} {m i x : Operand} {a b c : Value} (h' : AH) (ho : o.op = .insert T m i x) (hs : okO n o = true) (hd : o.dst = none) (ha : ev n f m = some a) (hb : ev n f i = some b) (hc : ev n f x = some c) (hv : aUpdate P T a b c h = some h')
  (k : L P n ops Q rest f h') : L P n ops Q (o :: rest) f h :=
 L_do (okO_ok hs).1 hd (by rw [ho]; rfl) (by rw [ho]; simp only [evAct, ha, hb, hc, hv]; rfl) k
end
end Go.Arm
namespace Go.Proofs.YtlgakeilplnfmaaGreatDoor
noncomputable section
open Go Go.X Go.Arm
theorem kr {p : Prop} (h : p := by kernel_rfl) : p := h
end
end Go.Proofs.YtlgakeilplnfmaaGreatDoor
namespace Go.Arm
open Go Go.X Go.Proofs Go.Proofs.YtlgakeilplnfmaaGreatDoor
variable {S S' : Nat → Prop} {h h' h'' : AH}
theorem Sm.tr (s : Sm S h h') (k : Sm S' h' h'') (hs : ∀ x, S' x → S x ∨ h.next ≤ x := by
    intro x hx
    have hx : x = _ := hx
    first | exact .inr (by omega) | exact .inl (by subst hx; first | rfl | exact .inl rfl | exact .inr rfl | exact .inr (.inl rfl) | exact .inr (.inr rfl) | (show _ < _; omega))) : Sm S h h'' := s.trans k hs
variable {b : Nat} {l : List Value}
theorem Cl.sn (c : Cl h b l) (t : Sm S h h') (hn : ¬ S b := by (show ¬ _ = _); omega) : Cl h' b l := c.sm t hn
theorem Cl.sN (c : Cl h b l) (T : TypeId) (v : Value) (cs : List Value) (hl : l.length = cs.length := by exact rfl) (hz : szOf Tryz.prog T = some cs.length := by kernel_rfl) (hv : cellsL v = cs := by exact rfl) (h1 : ∀ v, v ∈ cs → v.oneCell' = true := by exact List.all_eq_true.1 rfl) :
    ∃ h', aStore Tryz.prog T ⟨b, 0, none⟩ v h = some h' ∧ Cl h' b cs ∧ Sm (fun k => k = b) h h' ∧ h'.next = h.next := Cl.storeN c hl hz hv rfl h1
theorem Cl.sA (c : Cl h b l) (T : TypeId) (cs : List Value) (hl : l.length = cs.length := by exact rfl) (hz : szOf Tryz.prog T = some cs.length := by kernel_rfl) (hv : cellsL (.agg ⟨cs⟩) = cs := by exact rfl) (h1 : ∀ v, v ∈ cs → v.oneCell' = true := by exact List.all_eq_true.1 rfl) :
    ∃ h', aStore Tryz.prog T ⟨b, 0, none⟩ (.agg ⟨cs⟩) h = some h' ∧ Cl h' b cs ∧ Sm (fun k => k = b) h h' ∧ h'.next = h.next := Cl.storeN c hl hz hv rfl h1
theorem Cl.s1 (c : Cl h b l) (T : TypeId) (o : Nat) (v : Value) (ho : o < l.length := by simp) (hz : szOf Tryz.prog T = some 1 := by kernel_rfl) (hv : cellsL v = [v] := by exact rfl) (h1 : v.oneCell' = true := by exact rfl) :
    ∃ h', aStore Tryz.prog T ⟨b, o, none⟩ v h = some h' ∧ Cl h' b (l.set o v) ∧ Sm (fun k => k = b) h h' ∧ h'.next = h.next := c.store hz hv h1 ho
variable {P : Program} {n : Nat} {ops : Array Oper} {rest : List Oper} {o : Oper} {f : Fr} {Q : Post}
theorem L_nwc [Kn P] (l : List Value) (mk : Mk) (hs : okO n o = true) (hk : kOp o.op = 0) (ha : evAl P n f o.op = some (.cells l, mk))
    (k : ∀ h', Cl h' h.next l → Sm Nix h h' → h'.next = h.next + 1 → L P n ops Q rest (updO f o.dst (mk.val h.next)) h') : L P n ops Q (o :: rest) f h :=
  L_nw (.cells l) mk hs hk ha (k _ (Cl.new h _) (.push h _) rfl)
variable {K : Fr → AH → Prop} {pre r : List Nat} {i : Nat}
theorem NS_nwc (l : List Value) (mk : Mk) (ho : ops[i]? = some o) (hw : wantF n ops o f = true) (hd : dOk n o.dst = true) (hk : opK o.op = 3) (ha : evAl P n f o.op = some (.cells l, mk))
    (hr : Rk P n ops (updO f o.dst (mk.val h.next)) (h.push (Al.cells l).obj) (pre ++ [i])) (k : ∀ h', Cl h' h.next l → Sm Nix h h' → h'.next = h.next + 1 → NS P n ops (pre ++ [i]) K r (updO f o.dst (mk.val h.next)) h') : NS P n ops pre K (i :: r) f h :=
  NS_newR (.cells l) mk ho hw hd hk ha hr (k _ (Cl.new h _) (.push h _) rfl)
variable {w : AH}
variable [Kn P]
theorem W_sr {l : List Oper} {id : Nat} {y : Code} (h : L P n l.toArray (Then (fun f w => W P n y Q f w) Q) l f w) : W P n (.seq (.region id l.toArray false) y) Q f w := W_seq (W_region h)
theorem W_rg (k : Nat) {id : Nat} {l : List Oper} (hs : okG P n w l.toArray (l.take k) f = true) (h : L P n l.toArray Q (l.drop k) (runG P n w l.toArray (l.take k) f) w) : W P n (.region id l.toArray false) Q f w := W_region (L_g k hs h)
theorem W_sg (k : Nat) {id : Nat} {l : List Oper} {y : Code} (hs : okG P n w l.toArray (l.take k) f = true) (h : L P n l.toArray (Then (fun f w => W P n y Q f w) Q) (l.drop k) (runG P n w l.toArray (l.take k) f) w) : W P n (.seq (.region id l.toArray false) y) Q f w := W_seq (W_region (L_g k hs h))
theorem Calls_W (n : Nat) (fn : Func) {k : FuncId} {c : Code} {args : List Value} {R : Value × AH → Prop} (h : W P n c (Done P n fn R) (entry args) w)
    (hf : P.funcs[k]? = some fn := by kernel_rfl) (hb : fn.body = some c := by exact rfl) (hn : fn.ntmps = n := by exact rfl) (hl : args.length ≤ n := by exact Nat.le_of_ble_eq_true rfl) (ht : T.Ok n := by trivial) (hk : (Kn.f P ≠ some k ∨ args ≠ []) ∧ Kn.g P k args w = none := by exact ⟨.inr (by simp), rfl⟩) : Calls P k args w R := Calls_of_W hf hb hn hl ht hk h
theorem W_cF {c : Operand} {x y : Code} {f : Fr} {Q : Post} (hc : ev n f c = some (.bool false)) (h : W P n y Q f w) : W P n (.cond c x y) Q f w := W_cond false hc (fun e => by cases e) fun _ => h
theorem W_cT {c : Operand} {x y : Code} {f : Fr} {Q : Post} (hc : ev n f c = some (.bool true)) (h : W P n x Q f w) : W P n (.cond c x y) Q f w := W_cond true hc (fun _ => h) fun e => by cases e
theorem rr {A B : Prop} (b : B) (h : B → A := by intro b; (repeat first | with_reducible refine then_ret ?_ | with_reducible refine blk_ret ?_); exact b) : A := h b
theorem rx {A B : Prop} (b : B) (h : B → A := by intro b; (repeat with_reducible refine then_exit ?_); exact b) : A := h b
end Go.Arm
namespace Go.Lj
inductive Nd where
 | mk (op val : Int) (nm ot : ByteArray) (a b e : List Nd) : Nd
namespace Nd
def op : Nd → Int | .mk x _ _ _ _ _ _ => x
def val : Nd → Int | .mk _ x _ _ _ _ _ => x
def nm : Nd → ByteArray | .mk _ _ x _ _ _ _ => x
def ot : Nd → ByteArray | .mk _ _ _ x _ _ _ => x
def a : Nd → List Nd | .mk _ _ _ _ x _ _ => x
def b : Nd → List Nd | .mk _ _ _ _ _ x _ => x
def e : Nd → List Nd | .mk _ _ _ _ _ _ x => x
end Nd
structure Ins where
 op : Int
 arg : Int
 nm : ByteArray
 ot : ByteArray
def emp : ByteArray := ⟨#[]⟩
def insOp (op : Int) : Option Int :=
 if op = 20 then some 1 else if op = 21 then some 2 else if op = 22 then some 4 else if op = 23 then some 5 else if op = 25 then some 6 else if op = 26 then some 7 else
 if op = 1 then some 3 else if op = 2 then some 11 else if op = 3 then some 12 else if op = 4 then some 13 else if op = 5 then some 14 else if op = 6 then some 15 else
 if op = 7 then some 16 else if op = 8 then some 17 else if op = 9 then some 18 else if op = 10 then some 19 else if op = 11 then some 20 else none
def anys : Nat → List Nd → Int
 | _, [] => 0
 | k, y :: l => (if y.op = 24 then (2 ^ k : Int) else 0) + anys (k + 1) l
def ins1 (x : Nd) : Ins := match insOp x.op with
 | none => ⟨8, x.op, emp, emp⟩
 | some o => ⟨o, x.val + (if x.op = 3 ∨ x.op = 5 then anys 0 x.a else 0), x.nm, x.ot⟩
mutual
def cg1 (n : Nat) : Nd → List Ins
 | .mk op val nm ot a b e =>
  let ca := cga n a
  if op = 12 ∨ op = 13 then
   let z := n + ca.length
   let cb := cgs (z + 1) b
   let j := z + 1 + cb.length
   if e = [] then
    if op = 13 then ca ++ [⟨10, ((j + 1 : Nat) : Int), emp, emp⟩] ++ cb ++ [⟨9, (n : Int), emp, emp⟩]
    else ca ++ [⟨10, (j : Int), emp, emp⟩] ++ cb
   else
    let ce := cgs (j + 1) e
    ca ++ [⟨10, ((j + 1 : Nat) : Int), emp, emp⟩] ++ cb ++ [⟨9, ((j + 1 + ce.length : Nat) : Int), emp, emp⟩] ++ ce
  else ca ++ [ins1 (.mk op val nm ot a b e)]
def cgs (n : Nat) : List Nd → List Ins
 | [] => []
 | x :: l => let c := cg1 n x; c ++ cgs (n + c.length) l
def cga (n : Nat) : List Nd → List Ins
 | [] => []
 | x :: l => if x.op = 24 then cga n l else let c := cg1 n x; c ++ cga (n + c.length) l
end
def chg (x : Ins) : Int × Int :=
 if x.op = 1 ∨ x.op = 2 ∨ x.op = 4 ∨ x.op = 5 then (1, 0)
 else if x.op = 6 ∨ x.op = 7 then (0, 1)
 else if x.op = 8 then (-1, 2)
 else if x.op = 3 ∨ x.op = 10 ∨ x.op = 17 ∨ x.op = 19 ∨ x.op = 20 then (-1, 1)
 else if x.op = 11 ∨ x.op = 13 then (-3, 3)
 else if x.op = 12 ∨ x.op = 14 then (-(2 - x.arg % 2 - x.arg / 2 % 2), 2 - x.arg % 2 - x.arg / 2 % 2)
 else (0, 0)
structure At (n : Nat) (len : Nat) (H : Nat → Int) (i : Nat) (x : Ins) : Prop where
 ne : x.op ≠ 21
 pop : (chg x).2 ≤ H i
 jmp : x.op = 9 ∨ x.op = 10 → ∃ k, k ≤ len ∧ x.arg = ((n + k : Nat) : Int) ∧ H k = H i + (chg x).1
 nx : x.op ≠ 9 → H (i + 1) = H i + (chg x).1
def Seg (n : Nat) (c : List Ins) (h h' : Int) : Prop := ∃ H : Nat → Int, H 0 = h ∧ H c.length = h' ∧ ∀ i x, c[i]? = some x → At n c.length H i x
theorem Seg.nil {n : Nat} {h : Int} : Seg n [] h h := ⟨fun _ => h, rfl, rfl, fun i x hx => by simp at hx⟩
theorem Seg.append {n : Nat} {c d : List Ins} {h h' h'' : Int} (s : Seg n c h h') (t : Seg (n + c.length) d h' h'') : Seg n (c ++ d) h h'' := by
 obtain ⟨H, s0, s1, s2⟩ := s
 obtain ⟨K, t0, t1, t2⟩ := t
 obtain ⟨J, eL, eR⟩ : ∃ J : Nat → Int, (∀ i, i ≤ c.length → J i = H i) ∧ ∀ i, J (c.length + i) = K i := by
   refine ⟨fun i => if i < c.length then H i else K (i - c.length), fun i hi => ?_, fun i => ?_⟩
   · by_cases e : i < c.length
     · exact if_pos e
     · have : i = c.length := by omega
       subst this
       dsimp only
       rw [if_neg e, Nat.sub_self, t0, s1]
   · dsimp only
     rw [if_neg (by omega)]; congr 1; omega
 refine ⟨J, ?_, ?_, fun i x hx => ?_⟩
 · rw [eL 0 (Nat.zero_le _)]; exact s0
 · rw [List.length_append, eR]; exact t1
 · by_cases e : i < c.length
   · rw [List.getElem?_append_left e] at hx
     obtain ⟨a1, a2, a3, a4⟩ := s2 i x hx
     refine ⟨a1, by rw [eL i (by omega)]; exact a2, fun hj => ?_, fun hn => by rw [eL i (by omega), eL (i + 1) (by omega)]; exact a4 hn⟩
     obtain ⟨k, k1, k2, k3⟩ := a3 hj
     exact ⟨k, by rw [List.length_append]; omega, k2, by rw [eL k k1, eL i (by omega)]; exact k3⟩
   · obtain ⟨j, rfl⟩ : ∃ j, i = c.length + j := ⟨i - c.length, by omega⟩
     rw [List.getElem?_append_right (by omega), Nat.add_sub_cancel_left] at hx
     obtain ⟨a1, a2, a3, a4⟩ := t2 j x hx
     refine ⟨a1, by rw [eR]; exact a2, fun hj => ?_, fun hn => by rw [Nat.add_assoc, eR, eR]; exact a4 hn⟩
     obtain ⟨k, k1, k2, k3⟩ := a3 hj
     exact ⟨c.length + k, by rw [List.length_append]; omega, by rw [k2, Nat.add_assoc], by rw [eR, eR]; exact k3⟩
theorem Seg.one {n : Nat} {x : Ins} {h h' : Int} (h1 : x.op ≠ 21) (h2 : (chg x).2 ≤ h) (h3 : x.op ≠ 9) (h4 : x.op ≠ 10) (h5 : h' = h + (chg x).1) : Seg n [x] h h' := by
 refine ⟨fun i => if i = 0 then h else h', rfl, rfl, fun i y hy => ?_⟩
 cases i with
 | zero =>
  simp only [List.getElem?_cons_zero, Option.some.injEq] at hy
  subst hy
  exact ⟨h1, h2, fun hj => (hj.elim h3 h4).elim, fun _ => h5⟩
 | succ i => simp at hy
end Go.Lj
namespace Go.Lj
structure Fo where
 args : Nat
 name : Bool
 other : Bool
 body : Bool
 rest : Bool
def forms (op : Int) : Option Fo :=
 if 30 ≤ op ∧ op ≤ 42 then some ⟨2, false, false, false, false⟩ else
 if op = 1 then some ⟨1, true, false, false, false⟩ else if op = 2 then some ⟨3, false, false, false, false⟩ else if op = 3 then some ⟨2, true, false, false, false⟩ else
 if op = 4 then some ⟨3, true, false, false, false⟩ else if op = 5 then some ⟨2, true, true, false, false⟩ else if op = 6 then some ⟨0, true, false, false, false⟩ else
 if op = 7 then some ⟨0, false, false, false, false⟩ else if op = 8 then some ⟨1, true, false, false, false⟩ else if op = 9 then some ⟨0, true, false, false, false⟩ else
 if op = 10 then some ⟨1, false, false, false, false⟩ else if op = 11 then some ⟨1, false, false, false, false⟩ else if op = 12 then some ⟨1, false, false, true, true⟩ else
 if op = 13 then some ⟨1, false, false, true, false⟩ else if op = 20 then some ⟨0, false, false, false, false⟩ else if op = 21 then some ⟨0, true, false, false, false⟩ else
 if op = 22 then some ⟨0, false, false, false, false⟩ else if op = 23 then some ⟨0, false, false, false, false⟩ else if op = 24 then some ⟨0, false, false, false, false⟩ else
 if op = 25 then some ⟨1, false, false, false, false⟩ else if op = 26 then some ⟨1, false, false, false, false⟩ else none
def fitv (op val : Int) : Bool :=
 if op = 2 then val = 0 || val = 1 else if op = 9 then 1 ≤ val && val ≤ 7 else if op = 20 then 0 ≤ val else val = 0
def inner (op : Int) : Nat := if op = 3 ∨ op = 5 then 2 else 1
section
variable (nok : ByteArray → Bool)
mutual
def fm (pl : Nat) : Nd → Bool
 | .mk op val nm ot a b e => match forms op with
  | none => false
  | some f => (decide (op ≤ 13) == decide (pl = 0)) && !(decide (op = 24) && !decide (pl = 2)) && decide (a.length = f.args) && (f.body || b.isEmpty) && (f.rest || e.isEmpty) && fitv op val &&
   (f.name == nok nm) && (f.name || decide (nm = emp)) && (f.other == nok ot) && (f.other || decide (ot = emp)) && fma (inner op) a && fma 0 b && fma 0 e
def fma (pl : Nat) : List Nd → Bool
 | [] => true
 | x :: l => fm pl x && fma pl l
end
end
variable {nok : ByteArray → Bool}
theorem fm_is {pl : Nat} {op val : Int} {nm ot : ByteArray} {a b e : List Nd} (h : fm nok pl (.mk op val nm ot a b e) = true) : ∃ f, forms op = some f ∧ (op ≤ 13 ↔ pl = 0) ∧ (op = 24 → pl = 2) ∧ a.length = f.args ∧ (f.body = false → b = []) ∧ (f.rest = false → e = []) ∧
   fitv op val = true ∧ fma nok (inner op) a = true ∧ fma nok 0 b = true ∧ fma nok 0 e = true := by
 unfold fm at h
 split at h
 · cases h
 · rename_i f hf
   simp only [Bool.and_eq_true, beq_iff_eq, decide_eq_decide, decide_eq_true_eq] at h
   obtain ⟨⟨⟨⟨⟨⟨⟨⟨⟨⟨⟨⟨h1, h2⟩, h3⟩, h4⟩, h5⟩, h6⟩, _⟩, _⟩, _⟩, _⟩, h7⟩, h8⟩, h9⟩ := h
   refine ⟨f, hf, h1, fun e => ?_, h3, fun e => ?_, fun e => ?_, h6, h7, h8, h9⟩
   · simpa [e] using h2
   · simpa [e] using h4
   · simpa [e] using h5
theorem fma_cons {pl : Nat} {x : Nd} {l : List Nd} : fma nok pl (x :: l) = true ↔ fm nok pl x = true ∧ fma nok pl l = true := by
 rw [fma, Bool.and_eq_true]
def cnta : List Nd → Int
 | [] => 0
 | x :: l => (if x.op = 24 then 0 else 1) + cnta l
theorem cnta_len {pl : Nat} (hp : pl ≠ 2) : ∀ {l : List Nd}, fma nok pl l = true → cnta l = (l.length : Int)
 | [], _ => rfl
 | x :: l, h => by
  obtain ⟨h1, h2⟩ := fma_cons.1 h
  obtain ⟨op, val, nm, ot, a, b, e⟩ := x
  obtain ⟨f, _, _, h3, _⟩ := fm_is h1
  have : (Nd.mk op val nm ot a b e).op ≠ 24 := fun e => hp (h3 e)
  rw [cnta, if_neg this, cnta_len hp h2, List.length_cons]; omega
theorem anys_two {l : List Nd} (h : l.length = 2) : 0 ≤ anys 0 l ∧ 2 - anys 0 l % 2 - anys 0 l / 2 % 2 = cnta l := by
 match l, h with
 | [x, y], _ =>
  show 0 ≤ (if x.op = 24 then (2 ^ 0 : Int) else 0) + ((if y.op = 24 then (2 ^ (0 + 1) : Int) else 0) + 0) ∧ 2 - ((if x.op = 24 then (2 ^ 0 : Int) else 0) + ((if y.op = 24 then (2 ^ (0 + 1) : Int) else 0) + 0)) % 2 - ((if x.op = 24 then (2 ^ 0 : Int) else 0) + ((if y.op = 24 then (2 ^ (0 + 1) : Int) else 0) + 0)) / 2 % 2 = (if x.op = 24 then 0 else 1) + ((if y.op = 24 then 0 else 1) + 0)
  by_cases h1 : x.op = 24 <;> by_cases h2 : y.op = 24 <;> simp [h1, h2]
theorem cgs_nil (n : Nat) : cgs n [] = [] := by unfold cgs; rfl
theorem cgs_cons (n : Nat) (x : Nd) (l : List Nd) : cgs n (x :: l) = cg1 n x ++ cgs (n + (cg1 n x).length) l := by conv => lhs; unfold cgs
theorem cga_nil (n : Nat) : cga n [] = [] := by unfold cga; rfl
theorem cga_cons (n : Nat) (x : Nd) (l : List Nd) : cga n (x :: l) = if x.op = 24 then cga n l else cg1 n x ++ cga (n + (cg1 n x).length) l := by conv => lhs; unfold cga
theorem forms_if {op : Int} {f : Fo} (h : forms op = some f) (hb : op = 12 ∨ op = 13) : f.args = 1 ∧ (op = 13 → f.rest = false) := by
 rcases hb with rfl | rfl
 · rw [show forms 12 = some ⟨1, false, false, true, true⟩ from rfl] at h; cases h; exact ⟨rfl, fun e => by omega⟩
 · rw [show forms 13 = some ⟨1, false, false, true, false⟩ from rfl] at h; cases h; exact ⟨rfl, fun _ => rfl⟩
theorem fitv0 {op val : Int} (h : fitv op val = true) (h1 : op ≠ 2) (h2 : op ≠ 9) (h3 : op ≠ 20) : val = 0 := by
 unfold fitv at h
 rw [if_neg h1, if_neg h2, if_neg h3] at h
 exact of_decide_eq_true h
theorem one_at {n : Nat} {op val : Int} {nm ot : ByteArray} {a b e : List Nd} {f : Fo} {k : Int} (hf : forms op = some f) (h24 : op ≠ 24) (hn : ¬ (op = 12 ∨ op = 13)) (ha : a.length = f.args) (ht : fitv op val = true)
   (hc : ¬ (op = 3 ∨ op = 5) → cnta a = (f.args : Int)) (hk : 0 ≤ k) : Seg n [ins1 (.mk op val nm ot a b e)] (k + cnta a) (k + if op ≤ 13 then 0 else 1) := by
 by_cases hr : op = 3 ∨ op = 5
 · have hv := fitv0 ht (by omega) (by omega) (by omega)
   have hl : a.length = 2 := by
     rcases hr with rfl | rfl
     · rw [show forms 3 = some ⟨2, true, false, false, false⟩ from rfl] at hf; cases hf; exact ha
     · rw [show forms 5 = some ⟨2, true, true, false, false⟩ from rfl] at hf; cases hf; exact ha
   obtain ⟨h1, h2⟩ := anys_two hl
   have hi : (ins1 (.mk op val nm ot a b e)).arg = anys 0 a := by
     unfold ins1
     rcases hr with rfl | rfl <;> simp [Nd.op, Nd.val, Nd.a, insOp, hv]
   have ho : (ins1 (.mk op val nm ot a b e)).op = 12 ∨ (ins1 (.mk op val nm ot a b e)).op = 14 := by
     unfold ins1
     rcases hr with rfl | rfl <;> simp [Nd.op, insOp]
   generalize ins1 (.mk op val nm ot a b e) = x at hi ho ⊢
   have hc : chg x = (-cnta a, cnta a) := by
     unfold chg
     rw [if_neg (by omega), if_neg (by omega), if_neg (by omega), if_neg (by omega), if_neg (by omega), if_pos ho, hi, h2]
   refine Seg.one (by omega) ?_ (by omega) (by omega) ?_
   · rw [hc]; dsimp only; omega
   · rw [hc]; dsimp only; rw [if_pos (by omega)]; omega
 · have hc := hc hr
   rw [hc]
   have key : ∀ (o ch po : Int), insOp op = some o → (∀ y : Ins, y.op = o → chg y = (ch, po)) → o ≠ 21 → o ≠ 9 → o ≠ 10 → po ≤ (f.args : Int) → (if op ≤ 13 then 0 else 1) = (f.args : Int) + ch →
       Seg n [ins1 (.mk op val nm ot a b e)] (k + (f.args : Int)) (k + if op ≤ 13 then 0 else 1) := by
     intro o ch po e1 e2 e3 e4 e5 e6 e7
     have ho : (ins1 (.mk op val nm ot a b e)).op = o := by
       unfold ins1
       show (match insOp op with | none => _ | some o => _ : Ins).op = o
       rw [e1]
     refine Seg.one (by rw [ho]; exact e3) ?_ (by rw [ho]; exact e4) (by rw [ho]; exact e5) ?_
     · rw [e2 _ ho]; dsimp only; omega
     · rw [e2 _ ho, e7]; dsimp only; omega
   by_cases hb : 30 ≤ op ∧ op ≤ 42
   · have h1 : f = ⟨2, false, false, false, false⟩ := by unfold forms at hf; rw [if_pos hb] at hf; cases hf; rfl
     subst h1
     have hi : insOp op = none := by
       unfold insOp
       repeat rw [if_neg (by omega)]
     have ho : (ins1 (.mk op val nm ot a b e)).op = 8 := by
       unfold ins1
       show (match insOp op with | none => _ | some o => _ : Ins).op = 8
       rw [hi]
     have hc : chg (ins1 (.mk op val nm ot a b e)) = (-1, 2) := by
       unfold chg
       rw [ho]; rfl
     refine Seg.one (by rw [ho]; decide) ?_ (by rw [ho]; decide) (by rw [ho]; decide) ?_
     · rw [hc]; dsimp only; omega
     · rw [hc, if_neg (by omega)]; dsimp only; omega
   · unfold forms at hf
     rw [if_neg hb] at hf
     by_cases h1 : op = 1
     · rw [if_pos h1] at hf; cases hf; subst h1; exact key _ _ _ rfl (fun y hy => by unfold chg; rw [hy]; rfl) (by decide) (by decide) (by decide) (by decide) (by decide)
     rw [if_neg h1] at hf
     by_cases h2 : op = 2
     · rw [if_pos h2] at hf; cases hf; subst h2; exact key _ _ _ rfl (fun y hy => by unfold chg; rw [hy]; rfl) (by decide) (by decide) (by decide) (by decide) (by decide)
     rw [if_neg h2] at hf
     by_cases h3 : op = 3
     · exact (hr (by omega)).elim
     rw [if_neg h3] at hf
     by_cases h4 : op = 4
     · rw [if_pos h4] at hf; cases hf; subst h4; exact key _ _ _ rfl (fun y hy => by unfold chg; rw [hy]; rfl) (by decide) (by decide) (by decide) (by decide) (by decide)
     rw [if_neg h4] at hf
     by_cases h5 : op = 5
     · exact (hr (by omega)).elim
     rw [if_neg h5] at hf
     by_cases h6 : op = 6
     · rw [if_pos h6] at hf; cases hf; subst h6; exact key _ _ _ rfl (fun y hy => by unfold chg; rw [hy]; rfl) (by decide) (by decide) (by decide) (by decide) (by decide)
     rw [if_neg h6] at hf
     by_cases h7 : op = 7
     · rw [if_pos h7] at hf; cases hf; subst h7; exact key _ _ _ rfl (fun y hy => by unfold chg; rw [hy]; rfl) (by decide) (by decide) (by decide) (by decide) (by decide)
     rw [if_neg h7] at hf
     by_cases h8 : op = 8
     · rw [if_pos h8] at hf; cases hf; subst h8; exact key _ _ _ rfl (fun y hy => by unfold chg; rw [hy]; rfl) (by decide) (by decide) (by decide) (by decide) (by decide)
     rw [if_neg h8] at hf
     by_cases h9 : op = 9
     · rw [if_pos h9] at hf; cases hf; subst h9; exact key _ _ _ rfl (fun y hy => by unfold chg; rw [hy]; rfl) (by decide) (by decide) (by decide) (by decide) (by decide)
     rw [if_neg h9] at hf
     by_cases h10 : op = 10
     · rw [if_pos h10] at hf; cases hf; subst h10; exact key _ _ _ rfl (fun y hy => by unfold chg; rw [hy]; rfl) (by decide) (by decide) (by decide) (by decide) (by decide)
     rw [if_neg h10] at hf
     by_cases h11 : op = 11
     · rw [if_pos h11] at hf; cases hf; subst h11; exact key _ _ _ rfl (fun y hy => by unfold chg; rw [hy]; rfl) (by decide) (by decide) (by decide) (by decide) (by decide)
     rw [if_neg h11] at hf
     by_cases h12 : op = 12
     · exact (hn (by omega)).elim
     rw [if_neg h12] at hf
     by_cases h13 : op = 13
     · exact (hn (by omega)).elim
     rw [if_neg h13] at hf
     by_cases h20 : op = 20
     · rw [if_pos h20] at hf; cases hf; subst h20; exact key _ _ _ rfl (fun y hy => by unfold chg; rw [hy]; rfl) (by decide) (by decide) (by decide) (by decide) (by decide)
     rw [if_neg h20] at hf
     by_cases h21 : op = 21
     · rw [if_pos h21] at hf; cases hf; subst h21; exact key _ _ _ rfl (fun y hy => by unfold chg; rw [hy]; rfl) (by decide) (by decide) (by decide) (by decide) (by decide)
     rw [if_neg h21] at hf
     by_cases h22 : op = 22
     · rw [if_pos h22] at hf; cases hf; subst h22; exact key _ _ _ rfl (fun y hy => by unfold chg; rw [hy]; rfl) (by decide) (by decide) (by decide) (by decide) (by decide)
     rw [if_neg h22] at hf
     by_cases h23 : op = 23
     · rw [if_pos h23] at hf; cases hf; subst h23; exact key _ _ _ rfl (fun y hy => by unfold chg; rw [hy]; rfl) (by decide) (by decide) (by decide) (by decide) (by decide)
     rw [if_neg h23] at hf
     by_cases h24' : op = 24
     · omega
     rw [if_neg h24'] at hf
     by_cases h25 : op = 25
     · rw [if_pos h25] at hf; cases hf; subst h25; exact key _ _ _ rfl (fun y hy => by unfold chg; rw [hy]; rfl) (by decide) (by decide) (by decide) (by decide) (by decide)
     rw [if_neg h25] at hf
     by_cases h26 : op = 26
     · rw [if_pos h26] at hf; cases hf; subst h26; exact key _ _ _ rfl (fun y hy => by unfold chg; rw [hy]; rfl) (by decide) (by decide) (by decide) (by decide) (by decide)
     rw [if_neg h26] at hf
     cases hf
theorem chg10 {x : Ins} (h : x.op = 10) : chg x = (-1, 1) := by unfold chg; rw [h]; rfl
theorem chg9 {x : Ins} (h : x.op = 9) : chg x = (0, 0) := by unfold chg; rw [h]; rfl
section
variable {n : Nat} {ca cb ce : List Ins} {h : Int}
theorem seg_if (ha : Seg n ca h (h + 1)) (sb : Seg (n + ca.length + 1) cb h h) (h0 : 0 ≤ h) : Seg n (ca ++ [⟨10, ((n + ca.length + 1 + cb.length : Nat) : Int), emp, emp⟩] ++ cb) h h := by
 obtain ⟨K, t0, t1, t2⟩ := sb
 generalize hA : (⟨10, ((n + ca.length + 1 + cb.length : Nat) : Int), emp, emp⟩ : Ins) = A
 rw [List.append_assoc]
 refine ha.append ⟨fun i => match i with | 0 => h + 1 | i + 1 => K i, rfl, ?_, fun i x hx => ?_⟩
 · show K cb.length = h
   exact t1
 · cases i with
   | zero =>
    simp only [List.singleton_append, List.getElem?_cons_zero, Option.some.injEq] at hx
    subst hx hA
    refine ⟨(by decide : (10 : Int) ≠ 21), ?_, fun _ => ⟨cb.length + 1, by simp, ?_, ?_⟩, fun _ => ?_⟩
    · rw [chg10 rfl]; show (1 : Int) ≤ h + 1; omega
    · dsimp only; omega
    · rw [chg10 rfl]; show K cb.length = h + 1 + -1; omega
    · rw [chg10 rfl]; show K 0 = h + 1 + -1; omega
   | succ i =>
    simp only [List.singleton_append, List.getElem?_cons_succ] at hx
    obtain ⟨a1, a2, a3, a4⟩ := t2 i x hx
    refine ⟨a1, a2, fun hj => ?_, a4⟩
    obtain ⟨k, k1, k2, k3⟩ := a3 hj
    exact ⟨k + 1, by simp; omega, by rw [k2]; omega, k3⟩
theorem seg_while (ha : Seg n ca h (h + 1)) (sb : Seg (n + ca.length + 1) cb h h) (h0 : 0 ≤ h) : Seg n (ca ++ [⟨10, ((n + ca.length + 1 + cb.length + 1 : Nat) : Int), emp, emp⟩] ++ cb ++ [⟨9, (n : Int), emp, emp⟩]) h h := by
 obtain ⟨L, s0, s1, s2⟩ := ha
 obtain ⟨K, t0, t1, t2⟩ := sb
 obtain ⟨J, eL, eM, eR⟩ : ∃ J : Nat → Int, (∀ i, i ≤ ca.length → J i = L i) ∧ (∀ i, i ≤ cb.length → J (ca.length + 1 + i) = K i) ∧ J (ca.length + 1 + cb.length + 1) = h := by
   refine ⟨fun i => if i ≤ ca.length then L i else if i ≤ ca.length + 1 + cb.length then K (i - (ca.length + 1)) else h, fun i hi => if_pos hi, fun i hi => ?_, ?_⟩
   · dsimp only; rw [if_neg (by omega), if_pos (by omega)]; congr 1; omega
   · dsimp only; rw [if_neg (by omega), if_neg (by omega)]
 generalize hA : (⟨10, ((n + ca.length + 1 + cb.length + 1 : Nat) : Int), emp, emp⟩ : Ins) = A
 generalize hB : (⟨9, (n : Int), emp, emp⟩ : Ins) = B
 have hl : (ca ++ [A] ++ cb ++ [B]).length = ca.length + 1 + cb.length + 1 := by simp; omega
 have J0 : J 0 = h := by rw [eL 0 (Nat.zero_le _)]; exact s0
 refine ⟨J, J0, ?_, fun i x hx => ?_⟩
 · rw [hl]; exact eR
 · rw [hl]
   by_cases c1 : i < ca.length
   · rw [List.append_assoc, List.append_assoc, List.getElem?_append_left c1] at hx
     obtain ⟨a1, a2, a3, a4⟩ := s2 i x hx
     refine ⟨a1, by rw [eL i (by omega)]; exact a2, fun hj => ?_, fun hn => by rw [eL i (by omega), eL (i + 1) (by omega)]; exact a4 hn⟩
     obtain ⟨k, k1, k2, k3⟩ := a3 hj
     exact ⟨k, by omega, k2, by rw [eL k k1, eL i (by omega)]; exact k3⟩
   · by_cases c2 : i = ca.length
     · subst c2
       have : x = A := by simpa using hx.symm
       subst this
       subst hA
       refine ⟨(by decide : (10 : Int) ≠ 21), ?_, fun _ => ⟨ca.length + 1 + cb.length + 1, Nat.le_refl _, ?_, ?_⟩, fun _ => ?_⟩
       · rw [chg10 rfl, eL _ (Nat.le_refl _), s1]; dsimp only; omega
       · dsimp only; omega
       · rw [chg10 rfl, eR, eL _ (Nat.le_refl _), s1]; dsimp only; omega
       · rw [chg10 rfl, eL _ (Nat.le_refl _), s1]; have := eM 0 (Nat.zero_le _); rw [Nat.add_zero] at this; rw [this, t0]; dsimp only; omega
     · by_cases c3 : i < ca.length + 1 + cb.length
       · obtain ⟨j, rfl⟩ : ∃ j, i = ca.length + 1 + j := ⟨i - (ca.length + 1), by omega⟩
         rw [List.getElem?_append_left (by simp; omega), List.getElem?_append_right (by simp)] at hx
         have : ca.length + 1 + j - (ca ++ [A]).length = j := by simp
         rw [this] at hx
         obtain ⟨a1, a2, a3, a4⟩ := t2 j x hx
         refine ⟨a1, by rw [eM j (by omega)]; exact a2, fun hj => ?_, fun hn => by rw [eM j (by omega), Nat.add_assoc, eM (j + 1) (by omega)]; exact a4 hn⟩
         obtain ⟨k, k1, k2, k3⟩ := a3 hj
         exact ⟨ca.length + 1 + k, by omega, by rw [k2]; omega, by rw [eM k k1, eM j (by omega)]; exact k3⟩
       · by_cases c4 : i = ca.length + 1 + cb.length
         · subst c4
           have : x = B := by
             rw [List.getElem?_append_right (by simp; omega)] at hx
             have e : ca.length + 1 + cb.length - (ca ++ [A] ++ cb).length = 0 := by simp; omega
             rw [e] at hx
             simpa using hx.symm
           subst this
           subst hB
           refine ⟨(by decide : (9 : Int) ≠ 21), ?_, fun _ => ⟨0, Nat.zero_le _, ?_, ?_⟩, fun hn => (hn rfl).elim⟩
           · rw [chg9 rfl, eM _ (Nat.le_refl _), t1]; exact h0
           · dsimp only; omega
           · rw [chg9 rfl, J0, eM _ (Nat.le_refl _), t1]; dsimp only; omega
         · have := (List.getElem?_eq_some_iff.1 hx).1
           omega
theorem seg_else (ha : Seg n ca h (h + 1)) (sb : Seg (n + ca.length + 1) cb h h) (se : Seg (n + ca.length + 1 + cb.length + 1) ce h h) (h0 : 0 ≤ h) :
   Seg n (ca ++ [⟨10, ((n + ca.length + 1 + cb.length + 1 : Nat) : Int), emp, emp⟩] ++ cb ++ [⟨9, ((n + ca.length + 1 + cb.length + 1 + ce.length : Nat) : Int), emp, emp⟩] ++ ce) h h := by
 obtain ⟨L, s0, s1, s2⟩ := ha
 obtain ⟨K, t0, t1, t2⟩ := sb
 obtain ⟨M, u0, u1, u2⟩ := se
 obtain ⟨J, eL, eM, eR⟩ : ∃ J : Nat → Int, (∀ i, i ≤ ca.length → J i = L i) ∧ (∀ i, i ≤ cb.length → J (ca.length + 1 + i) = K i) ∧ ∀ i, J (ca.length + 1 + cb.length + 1 + i) = M i := by
   refine ⟨fun i => if i ≤ ca.length then L i else if i ≤ ca.length + 1 + cb.length then K (i - (ca.length + 1)) else M (i - (ca.length + 1 + cb.length + 1)), fun i hi => if_pos hi, fun i hi => ?_, fun i => ?_⟩
   · dsimp only; rw [if_neg (by omega), if_pos (by omega)]; congr 1; omega
   · dsimp only; rw [if_neg (by omega), if_neg (by omega)]; congr 1; omega
 have J0 : J 0 = h := by rw [eL 0 (Nat.zero_le _)]; exact s0
 generalize hA : (⟨10, ((n + ca.length + 1 + cb.length + 1 : Nat) : Int), emp, emp⟩ : Ins) = A
 generalize hB : (⟨9, ((n + ca.length + 1 + cb.length + 1 + ce.length : Nat) : Int), emp, emp⟩ : Ins) = B
 have hl : (ca ++ [A] ++ cb ++ [B] ++ ce).length = ca.length + 1 + cb.length + 1 + ce.length := by simp; omega
 refine ⟨J, J0, ?_, fun i x hx => ?_⟩
 · rw [hl, eR]; exact u1
 · rw [hl]
   by_cases c1 : i < ca.length
   · rw [List.append_assoc, List.append_assoc, List.append_assoc, List.getElem?_append_left c1] at hx
     obtain ⟨a1, a2, a3, a4⟩ := s2 i x hx
     refine ⟨a1, by rw [eL i (by omega)]; exact a2, fun hj => ?_, fun hn => by rw [eL i (by omega), eL (i + 1) (by omega)]; exact a4 hn⟩
     obtain ⟨k, k1, k2, k3⟩ := a3 hj
     exact ⟨k, by omega, k2, by rw [eL k k1, eL i (by omega)]; exact k3⟩
   · by_cases c2 : i = ca.length
     · subst c2
       have : x = A := by simpa using hx.symm
       subst this
       subst hA
       refine ⟨(by decide : (10 : Int) ≠ 21), ?_, fun _ => ⟨ca.length + 1 + cb.length + 1, by omega, ?_, ?_⟩, fun _ => ?_⟩
       · rw [chg10 rfl, eL _ (Nat.le_refl _), s1]; dsimp only; omega
       · dsimp only; omega
       · rw [chg10 rfl, eL _ (Nat.le_refl _), s1]; have := eR 0; rw [Nat.add_zero] at this; rw [this, u0]; dsimp only; omega
       · rw [chg10 rfl, eL _ (Nat.le_refl _), s1]; have := eM 0 (Nat.zero_le _); rw [Nat.add_zero] at this; rw [this, t0]; dsimp only; omega
     · by_cases c3 : i < ca.length + 1 + cb.length
       · obtain ⟨j, rfl⟩ : ∃ j, i = ca.length + 1 + j := ⟨i - (ca.length + 1), by omega⟩
         rw [List.append_assoc, List.getElem?_append_left (by simp; omega), List.getElem?_append_right (by simp)] at hx
         have : ca.length + 1 + j - (ca ++ [A]).length = j := by simp
         rw [this] at hx
         obtain ⟨a1, a2, a3, a4⟩ := t2 j x hx
         refine ⟨a1, by rw [eM j (by omega)]; exact a2, fun hj => ?_, fun hn => by rw [eM j (by omega), Nat.add_assoc, eM (j + 1) (by omega)]; exact a4 hn⟩
         obtain ⟨k, k1, k2, k3⟩ := a3 hj
         exact ⟨ca.length + 1 + k, by omega, by rw [k2]; omega, by rw [eM k k1, eM j (by omega)]; exact k3⟩
       · by_cases c4 : i = ca.length + 1 + cb.length
         · subst c4
           have : x = B := by
             rw [List.append_assoc, List.getElem?_append_right (by simp; omega)] at hx
             have e : ca.length + 1 + cb.length - (ca ++ [A] ++ cb).length = 0 := by simp; omega
             rw [e] at hx
             simpa using hx.symm
           subst this
           subst hB
           refine ⟨(by decide : (9 : Int) ≠ 21), ?_, fun _ => ⟨ca.length + 1 + cb.length + 1 + ce.length, Nat.le_refl _, ?_, ?_⟩, fun hn => (hn rfl).elim⟩
           · rw [chg9 rfl, eM _ (Nat.le_refl _), t1]; exact h0
           · dsimp only; omega
           · rw [chg9 rfl, eR, u1, eM _ (Nat.le_refl _), t1]; dsimp only; omega
         · obtain ⟨j, rfl⟩ : ∃ j, i = ca.length + 1 + cb.length + 1 + j := ⟨i - (ca.length + 1 + cb.length + 1), by omega⟩
           rw [List.getElem?_append_right (by simp; omega)] at hx
           have : ca.length + 1 + cb.length + 1 + j - (ca ++ [A] ++ cb ++ [B]).length = j := by simp; omega
           rw [this] at hx
           obtain ⟨a1, a2, a3, a4⟩ := u2 j x hx
           refine ⟨a1, by rw [eR j]; exact a2, fun hj => ?_, fun hn => by rw [eR j, Nat.add_assoc _ j 1, eR (j + 1)]; exact a4 hn⟩
           obtain ⟨k, k1, k2, k3⟩ := a3 hj
           exact ⟨ca.length + 1 + cb.length + 1 + k, by omega, by rw [k2]; omega, by rw [eR k, eR j]; exact k3⟩
end
mutual
theorem seg1 (n : Nat) : ∀ (x : Nd) (pl : Nat) (h : Int), fm nok pl x = true → x.op ≠ 24 → 0 ≤ h → Seg n (cg1 n x) h (h + if pl = 0 then 0 else 1)
 | .mk op val nm ot a b e, pl, h, hf, h24, h0 => by
  obtain ⟨f, f1, f2, f3, f4, f5, f6, f7, f8, f9, f10⟩ := fm_is hf
  have hin : inner op ≠ 0 := by unfold inner; split <;> decide
  have ha := sega n a (inner op) h f8 h0 hin
  have h24 : op ≠ 24 := h24
  have e0 : (if pl = 0 then (0 : Int) else 1) = if op ≤ 13 then 0 else 1 := by
    by_cases hp : pl = 0
    · rw [if_pos hp, if_pos (f2.2 hp)]
    · rw [if_neg hp, if_neg (fun e => hp (f2.1 e))]
  rw [e0]
  have hcn : ¬ (op = 3 ∨ op = 5) → cnta a = (f.args : Int) := fun hr => by
    have : inner op = 1 := by unfold inner; rw [if_neg hr]
    rw [this] at f8
    rw [cnta_len (by decide) f8, f4]
  unfold cg1
  by_cases hb : op = 12 ∨ op = 13
  · obtain ⟨g1, g2⟩ := forms_if f1 hb
    rw [hcn (by omega), g1] at ha
    have e1 : (if op ≤ 13 then (0 : Int) else 1) = 0 := if_pos (by omega)
    rw [e1, Int.add_zero]
    dsimp only
    rw [if_pos hb]
    have sb := segs (n + (cga n a).length + 1) b h f9 h0
    by_cases he : e = []
    · rw [if_pos he]
      by_cases hw : op = 13
      · rw [if_pos hw]
        exact seg_while ha sb h0
      · rw [if_neg hw]
        exact seg_if ha sb h0
    · rw [if_neg he]
      exact seg_else ha sb (segs (n + (cga n a).length + 1 + (cgs (n + (cga n a).length + 1) b).length + 1) e h f10 h0) h0
  · dsimp only
    rw [if_neg hb]
    exact ha.append (one_at f1 h24 hb f4 f7 hcn h0)
theorem segs (n : Nat) : ∀ (l : List Nd) (h : Int), fma nok 0 l = true → 0 ≤ h → Seg n (cgs n l) h h
 | [], h, _, _ => by rw [cgs_nil]; exact Seg.nil
 | x :: l, h, hf, h0 => by
  obtain ⟨h1, h2⟩ := fma_cons.1 hf
  rw [cgs_cons]
  have hx : x.op ≠ 24 := by
   obtain ⟨op, val, nm, ot, a, b, e⟩ := x
   obtain ⟨f, _, _, h3, _⟩ := fm_is h1
   intro e; have := h3 e; omega
  have s1 := seg1 n x 0 h h1 hx h0
  rw [if_pos rfl, Int.add_zero] at s1
  exact s1.append (segs _ l h h2 h0)
theorem sega (n : Nat) : ∀ (l : List Nd) (pl : Nat) (h : Int), fma nok pl l = true → 0 ≤ h → pl ≠ 0 → Seg n (cga n l) h (h + cnta l)
 | [], pl, h, _, _, _ => by rw [cga_nil]; exact (by simpa [cnta] using Seg.nil)
 | x :: l, pl, h, hf, h0, hp => by
  obtain ⟨h1, h2⟩ := fma_cons.1 hf
  rw [cga_cons]
  by_cases e : x.op = 24
  · rw [if_pos e, cnta, if_pos e, Int.zero_add]
    exact sega n l pl h h2 h0 hp
  · rw [if_neg e, cnta, if_neg e, ← Int.add_assoc]
    have s1 := seg1 n x pl h h1 e h0
    rw [if_neg hp] at s1
    exact s1.append (sega _ l pl (h + 1) h2 (by omega) hp)
end
end Go.Lj
namespace Go.Lj
structure Good (c : List Ins) (H : Nat → Int) : Prop where
 zero : H 0 = 0
 nn : ∀ i x, c[i]? = some x → 0 ≤ H i
 pop : ∀ i x, c[i]? = some x → (chg x).2 ≤ H i
 fin : ∀ i x, c[i]? = some x → x.op = 21 → H i = 0 ∧ i + 1 = c.length
 jmp : ∀ i x, c[i]? = some x → x.op = 9 ∨ x.op = 10 → ∃ k, k < c.length ∧ x.arg = (k : Int) ∧ H k = H i + (chg x).1
 nx : ∀ i x, c[i]? = some x → x.op ≠ 9 → x.op ≠ 21 → i + 1 < c.length ∧ H (i + 1) = H i + (chg x).1
theorem chg_nn (x : Ins) : 0 ≤ (chg x).2 := by
 unfold chg
 repeat' split
 all_goals (try (show (0 : Int) ≤ 2 - x.arg % 2 - x.arg / 2 % 2)); first | decide | omega
def iend : Ins := ⟨21, 0, emp, emp⟩
theorem good {nok : ByteArray → Bool} {l : List Nd} (h : fma nok 0 l = true) : ∃ H, Good (cgs 0 l ++ [iend]) H := by
 obtain ⟨H, h0, h1, h2⟩ := segs 0 l 0 h (Int.le_refl _)
 generalize cgs 0 l = c at h1 h2 ⊢
 have hl : (c ++ [iend]).length = c.length + 1 := by simp
 have cs : ∀ i x, (c ++ [iend])[i]? = some x → (i < c.length ∧ At 0 c.length H i x) ∨ (i = c.length ∧ x = iend) := by
   intro i x hx
   by_cases e : i < c.length
   · rw [List.getElem?_append_left e] at hx; exact .inl ⟨e, h2 i x hx⟩
   · have : i < (c ++ [iend]).length := (List.getElem?_eq_some_iff.1 hx).1
     have hi : i = c.length := by omega
     subst hi
     exact .inr ⟨rfl, by simpa using hx.symm⟩
 refine ⟨H, h0, fun i x hx => ?_, fun i x hx => ?_, fun i x hx ho => ?_, fun i x hx ho => ?_, fun i x hx h9 h21 => ?_⟩
 · rcases cs i x hx with ⟨_, a⟩ | ⟨rfl, rfl⟩
   · exact Int.le_trans (chg_nn x) a.pop
   · rw [h1]; exact Int.le_refl _
 · rcases cs i x hx with ⟨_, a⟩ | ⟨rfl, rfl⟩
   · exact a.pop
   · rw [h1]; decide
 · rcases cs i x hx with ⟨_, a⟩ | ⟨rfl, rfl⟩
   · exact (a.ne ho).elim
   · exact ⟨h1, hl.symm⟩
 · rcases cs i x hx with ⟨_, a⟩ | ⟨rfl, rfl⟩
   · obtain ⟨k, k1, k2, k3⟩ := a.jmp ho
     exact ⟨k, by omega, by rw [k2, Nat.zero_add], k3⟩
   · rcases ho with ho | ho <;> cases ho
 · rcases cs i x hx with ⟨hi, a⟩ | ⟨rfl, rfl⟩
   · exact ⟨by omega, a.nx h9⟩
   · exact (h21 rfl).elim
def unset : List Int → Nat
 | [] => 0
 | x :: l => (if x < 0 then 1 else 0) + unset l
theorem unset_set : ∀ {l : List Int} {k : Nat} {v w : Int}, l[k]? = some w → w < 0 → 0 ≤ v → unset (l.set k v) + 1 = unset l
 | [], k, v, w, h, _, _ => by simp at h
 | x :: l, 0, v, w, h, hw, hv => by
  simp only [List.getElem?_cons_zero, Option.some.injEq] at h
  subst h
  rw [List.set_cons_zero, unset, unset, if_neg (by omega), if_pos hw]; omega
 | x :: l, k + 1, v, w, h, hw, hv => by
  rw [List.getElem?_cons_succ] at h
  rw [List.set_cons_succ, unset, unset]
  have := unset_set h hw hv
  omega
structure Sea (c : List Ins) (H : Nat → Int) (ht : List Int) (todo : List Nat) : Prop where
 len : ht.length = c.length
 val : ∀ i v, ht[i]? = some v → v = -1 ∨ v = H i
 todo : ∀ i, i ∈ todo → ∃ v, ht[i]? = some v ∧ 0 ≤ v
 top : ∀ (i : Nat) (v : Int), ht[i]? = some v → v + (unset ht : Int) ≤ (c.length : Int)
variable {c : List Ins} {H : Nat → Int} {ht : List Int} {todo : List Nat}
theorem Sea.lt (S : Sea c H ht todo) {i : Nat} (h : i ∈ todo) : i < c.length ∧ ht[i]? = some (H i) := by
 obtain ⟨v, h1, h2⟩ := S.todo i h
 have := (List.getElem?_eq_some_iff.1 h1).1
 have h3 := S.len
 refine ⟨by omega, ?_⟩
 rcases S.val i v h1 with rfl | rfl
 · omega
 · exact h1
theorem Sea.drop (S : Sea c H ht todo) {l : List Nat} (h : ∀ i, i ∈ l → i ∈ todo) : Sea c H ht l := ⟨S.len, S.val, fun i hi => S.todo i (h i hi), S.top⟩
theorem Sea.new (S : Sea c H ht todo) {i0 k : Nat} {w : Int} (hk : k < c.length) (hn : 0 ≤ H k) (hw : ht[k]? = some w) (hw0 : w < 0) (hi0 : ht[i0]? = some (H i0)) (h1 : H k ≤ H i0 + 1) : Sea c H (ht.set k (H k)) (todo ++ [k]) := by
 have h3 := S.len
 have hu := unset_set hw hw0 hn
 refine ⟨by rw [List.length_set]; exact h3, fun i v hi => ?_, fun i hi => ?_, fun i v hi => ?_⟩
 rotate_right
 · rw [List.getElem?_set] at hi
   by_cases e : k = i
   · subst e; rw [if_pos rfl, if_pos (by omega)] at hi; cases hi
     have := S.top i0 _ hi0
     omega
   · rw [if_neg e] at hi
     have := S.top i v hi
     omega
 · rw [List.getElem?_set] at hi
   by_cases e : k = i
   · subst e; rw [if_pos rfl, if_pos (by omega)] at hi; cases hi; exact .inr rfl
   · rw [if_neg e] at hi; exact S.val i v hi
 · rw [List.getElem?_set]
   by_cases e : k = i
   · subst e; rw [if_pos rfl, if_pos (by omega)]; exact ⟨_, rfl, hn⟩
   · rw [if_neg e]
     rcases List.mem_append.1 hi with h | h
     · exact S.todo i h
     · exact (e (List.mem_singleton.1 h).symm).elim
theorem Sea.start (hc : 0 < c.length) (h0 : H 0 = 0) : Sea c H ((List.replicate c.length (-1)).set 0 0) [0] := by
 refine ⟨by simp, fun i v hi => ?_, fun i hi => ?_, fun i v hi => ?_⟩
 rotate_right
 · have hle : ∀ l : List Int, unset l ≤ l.length := fun l => by
     induction l with
     | nil => exact Nat.le_refl _
     | cons x l ih => rw [unset, List.length_cons]; split <;> omega
   have hu := unset_set (l := List.replicate c.length (-1)) (k := 0) (v := 0) (w := -1) (by rw [List.getElem?_replicate, if_pos hc]) (by decide) (by decide)
   have h5 := hle (List.replicate c.length (-1))
   rw [List.length_replicate] at h5
   rw [List.getElem?_set] at hi
   by_cases e : 0 = i
   · subst e; rw [if_pos rfl, if_pos (by simpa using hc)] at hi; cases hi; omega
   · rw [if_neg e, List.getElem?_replicate] at hi
     split at hi
     · cases hi; omega
     · cases hi
 · rw [List.getElem?_set] at hi
   by_cases e : 0 = i
   · subst e; rw [if_pos rfl, if_pos (by simpa using hc)] at hi; cases hi; exact .inr h0.symm
   · rw [if_neg e, List.getElem?_replicate] at hi
     split at hi
     · cases hi; exact .inl rfl
     · cases hi
 · cases List.mem_singleton.1 hi
   rw [List.getElem?_set, if_pos rfl, if_pos (by simpa using hc)]
   exact ⟨0, rfl, Int.le_refl _⟩
theorem chg_le (x : Ins) : (chg x).1 ≤ 1 ∧ -4 ≤ (chg x).1 := by
 unfold chg
 repeat' split
 all_goals (try (show -(2 - x.arg % 2 - x.arg / 2 % 2) ≤ (1 : Int) ∧ (-4 : Int) ≤ -(2 - x.arg % 2 - x.arg / 2 % 2))); first | decide | omega
def sc1 (x : Ins) : List Int := if x.op = 9 ∨ x.op = 10 then [x.arg] else []
def succs (i : Nat) (x : Ins) : List Int := sc1 x ++ (if x.op = 9 ∨ x.op = 21 then [] else [((i + 1 : Nat) : Int)])
theorem Good.succ (G : Good c H) {i : Nat} {x : Ins} (hx : c[i]? = some x) : ∀ z, z ∈ succs i x → ∃ k : Nat, z = (k : Int) ∧ k < c.length ∧ H k = H i + (chg x).1 ∧ 0 ≤ H k := by
 intro z hz
 have nn : ∀ k, k < c.length → 0 ≤ H k := fun k hk => G.nn k _ (List.getElem?_eq_getElem hk)
 unfold succs sc1 at hz
 rcases List.mem_append.1 hz with h | h
 · split at h
   · rename_i ho
     cases List.mem_singleton.1 h
     obtain ⟨k, k1, k2, k3⟩ := G.jmp i x hx ho
     exact ⟨k, k2, k1, k3, nn k k1⟩
   · cases h
 · split at h
   · cases h
   · rename_i ho
     cases List.mem_singleton.1 h
     obtain ⟨k1, k2⟩ := G.nx i x hx (fun e => ho (.inl e)) (fun e => ho (.inr e))
     exact ⟨i + 1, rfl, k1, k2, nn _ k1⟩
end Go.Lj
namespace Go.Lj
mutual
def dp1 : Nat → Nd → Bool
 | 0, _ => true
 | d + 1, .mk _ _ _ _ a b e => dpl d a || dpl d b || dpl d e
def dpl (d : Nat) : List Nd → Bool
 | [] => false
 | x :: l => dp1 d x || dpl d l
end
mutual
def sz1 : Nd → Nat
 | .mk _ _ _ _ a b e => 1 + szl a + szl b + szl e
def szl : List Nd → Nat
 | [] => 0
 | x :: l => sz1 x + szl l
end
section
variable (wr : Int → Int) (most : Int)
mutual
def cn1 : Nd → Int
 | .mk _ _ _ _ a b e => wr (wr (wr (1 + cnl 0 a) + cnl 0 b) + cnl 0 e)
def cnl (n : Int) : List Nd → Int
 | [] => n
 | x :: l => if n > most then n else cnl (wr (n + cn1 x)) l
end
end
def bd : Nat → Int
 | 0 => 0
 | d + 1 => 301 + 3 * bd d
theorem bd_nn : ∀ d, 0 ≤ bd d
 | 0 => Int.le_refl _
 | d + 1 => by have := bd_nn d; show 0 ≤ 301 + 3 * bd d; omega
theorem bd_mono : ∀ d, bd d ≤ bd (d + 1)
 | 0 => by decide
 | d + 1 => by have := bd_mono d; show 301 + 3 * bd d ≤ 301 + 3 * bd (d + 1); omega
theorem bd_le : ∀ {d e : Nat}, d ≤ e → bd d ≤ bd e
  | d, 0, h => by have : d = 0 := by omega
                  subst this; exact Int.le_refl _
  | d, e + 1, h => by
    by_cases h1 : d = e + 1
    · subst h1; exact Int.le_refl _
    · exact Int.le_trans (bd_le (by omega)) (bd_mono e)
theorem dpl_cons {d : Nat} {x : Nd} {l : List Nd} : dpl d (x :: l) = false ↔ dp1 d x = false ∧ dpl d l = false := by rw [dpl, Bool.or_eq_false_iff]
variable {wr : Int → Int}
theorem cnl_cons (n : Int) (x : Nd) (l : List Nd) : cnl wr 300 n (x :: l) = if n > 300 then n else cnl wr 300 (wr (n + cn1 wr 300 x)) l := by conv => lhs; unfold cnl
mutual
theorem cn1_is (hw : ∀ z : Int, 0 ≤ z → z < 10000000 → wr z = z) : ∀ (x : Nd) (d : Nat), d < 8 → dp1 (d + 1) x = false → 0 ≤ cn1 wr 300 x ∧ cn1 wr 300 x ≤ 1 + 3 * bd d ∧ (cn1 wr 300 x ≤ 300 → cn1 wr 300 x = (sz1 x : Int))
 | .mk op val nm ot a b e, d, hd, h => by
  have h8 : bd d ≤ 1000000 := Int.le_trans (bd_le (show d ≤ 8 by omega)) (by decide)
  rw [dp1, Bool.or_eq_false_iff, Bool.or_eq_false_iff] at h
  have ha := cnl_is hw a 0 d (by omega) (Int.le_refl _) (by have := bd_nn d; omega) h.1.1
  have hb := cnl_is hw b 0 d (by omega) (Int.le_refl _) (by have := bd_nn d; omega) h.1.2
  have he := cnl_is hw e 0 d (by omega) (Int.le_refl _) (by have := bd_nn d; omega) h.2
  have h0 := bd_nn d
  rw [cn1, sz1, hw (1 + _) (by omega) (by omega), hw (1 + _ + _) (by omega) (by omega), hw _ (by omega) (by omega)]
  refine ⟨by omega, by omega, fun hl => ?_⟩
  have := ha.2.2 (by omega); have := hb.2.2 (by omega); have := he.2.2 (by omega)
  omega
theorem cnl_is (hw : ∀ z : Int, 0 ≤ z → z < 10000000 → wr z = z) : ∀ (l : List Nd) (n : Int) (d : Nat), d ≤ 8 → 0 ≤ n → n ≤ bd d → dpl d l = false → 0 ≤ cnl wr 300 n l ∧ cnl wr 300 n l ≤ bd d ∧ (cnl wr 300 n l ≤ 300 → cnl wr 300 n l = n + (szl l : Int))
 | [], n, d, hd, h0, h1, h => by
  rw [cnl, szl]
  exact ⟨h0, h1, fun _ => by omega⟩
 | x :: l, n, 0, hd, h0, h1, h => by
  have := (dpl_cons.1 h).1
  rw [dp1] at this; cases this
 | x :: l, n, d + 1, hd, h0, h1, h => by
  obtain ⟨k1, k2⟩ := dpl_cons.1 h
  have h8 : bd d ≤ 1000000 := Int.le_trans (bd_le (show d ≤ 8 by omega)) (by decide)
  have hb : bd (d + 1) = 301 + 3 * bd d := rfl
  rw [cnl_cons, szl]
  by_cases hn : n > 300
  · rw [if_pos hn]
    exact ⟨h0, h1, fun h => by omega⟩
  · rw [if_neg hn]
    have hx := cn1_is hw x d (by omega) k1
    rw [hw _ (by omega) (by omega)]
    have ih := cnl_is hw l (n + cn1 wr 300 x) (d + 1) hd (by omega) (by omega) k2
    refine ⟨ih.1, ih.2.1, fun hl => ?_⟩
    have e := ih.2.2 hl
    have := hx.2.2 (by omega)
    omega
end
theorem few_of (hw : ∀ z : Int, 0 ≤ z → z < 10000000 → wr z = z) {l : List Nd} (hd : dpl 8 l = false) (h : cnl wr 300 0 l ≤ 300) : szl l ≤ 300 := by
 have := (cnl_is hw l 0 8 (Nat.le_refl _) (Int.le_refl _) (bd_nn 8) hd).2.2 h
 omega
end Go.Lj
namespace Go.Mt
open Go.Arm
abbrev By := List UInt8
structure En where
 src : Int
 ctx : Int
 tag : Int
 size : Int
 parts : Int
deriving DecidableEq
inductive Pk
 | eager (e : En) (d : By)
 | ask (e : En) (req : Int)
 | credit
 | clear (req : Int)
 | body (req : Int) (d : By)
 | part (req i : Int) (d : By)
inductive Ms
 | eager (e : En) (d : By)
 | ask (e : En) (req : Int)
structure St where
 src : Int
 tag : Int
 size : Int
 err : Int
deriving DecidableEq
structure Rq where
 no : Nat
 peer : Int
 ctx : Int
 tag : Int
 room : Int
 send : Bool
 sync : Bool
 pers : Bool
 act : Bool
 done : Bool
 parts : Nat
 size : Nat
 data : By
 pcs : List (Option By)
 gone : Nat
 sent : List Bool
 clr : Bool
 st : St
structure Pr where
 next : Nat
 reqs : List Nat
 exps : List ((Int × Int) × Nat)
 inb : List (Int × Pk)
 msgs : List Ms
 rcvs : List Nat
 crds : List Int
structure Wd where
 lim : Int
 n : Nat
 pr : Nat → Pr
 rq : Nat → Nat → Rq
 way : Int → Int → List Pk
def big : Nat := 1000000000
namespace Wd
end Wd
def Rq.small (r : Rq) : Prop := r.parts * r.size < big
instance (r : Rq) : Decidable r.small := inferInstanceAs (Decidable (_ < _))
namespace Wd
end Wd
end Go.Mt
namespace Go.Arm
noncomputable section
open Go Go.X
section
variable {P : Program} {h h' : AH} {S : Nat → Prop} {b : Nat} {T : TypeId} {k v : Value}
def Mb (h : AH) (b : Nat) : Prop := ∃ es cl, h.m.get b = some (.map es cl false) ∧ (es.map (·.2.2)).Nodup ∧ ∀ e, e ∈ es → e.2.2 < cl
theorem Mb.sm (H : Mb h b) (s : Sm S h h') (hl : b < h.next) (hb : ¬ S b) : Mb h' b := by
 obtain ⟨es, cl, h1, h2⟩ := H
 exact ⟨es, cl, (s.get b hl hb).trans h1, h2⟩
theorem Mb.new (h : AH) : Mb (h.push (.map [] 0 false)) h.next := ⟨[], 0, push_get _ _, by simp, fun e he => by cases he⟩
theorem setV_age : ∀ (es : List (Value × Value × Nat)) (i : Nat) (k v : Value), (setV es i k v).map (·.2.2) = es.map (·.2.2)
 | [], i, k, v => by unfold setV; cases i <;> rfl
 | e :: es, 0, k, v => by unfold setV; rfl
 | e :: es, i + 1, k, v => by
  have := setV_age es i k v
  unfold setV
  simp only [List.map_cons, this]
theorem Mb.update (H : Mb h b) (hu : aUpdate P T (.map (some b)) k v h = some h') : Mb h' b := by
 obtain ⟨es, cl, h1, h2, h3⟩ := H
 have got : ∀ es cl, (aSetMap h b es cl).m.get b = some (.map es cl false) := fun es cl => by show (h.m.set b _).get b = _; rw [X.T.get_set, if_pos rfl]
 unfold aUpdate at hu
 split at hu
 · rename_i hu2 _
   rename_i hb
   cases hb
   rw [h1] at hu
   dsimp only at hu
   split at hu
   · split at hu
     · rename_i i hi
       split at hu
       · split at hu
         · cases hu
           refine ⟨_, _, got _ _, by rw [setV_age]; exact h2, fun e he => ?_⟩
           have : e.2.2 ∈ (setV es i k v).map (·.2.2) := List.mem_map.2 ⟨e, he, rfl⟩
           rw [setV_age] at this
           obtain ⟨e', he', h5⟩ := List.mem_map.1 this
           rw [← h5]; exact h3 e' he'
         · cases hu
       · cases hu
     · cases hu
       refine ⟨_, _, got _ _, ?_, fun e he => ?_⟩
       · rw [List.map_append, List.nodup_append]
         refine ⟨h2, by simp, fun a ha c hc => ?_⟩
         obtain ⟨e, he, rfl⟩ := List.mem_map.1 ha
         have := h3 e he
         simp only [List.map_cons, List.map_nil, List.mem_singleton] at hc
         omega
       · rcases List.mem_append.1 he with he | he
         · have := h3 e he; omega
         · cases List.mem_singleton.1 he; exact Nat.lt_succ_self _
     · cases hu
   · cases hu
 · cases hu
end
section
variable {P : Program} {h h' : AH} {S : Nat → Prop} {it b c : Nat} {κ β : Type} {kv : κ → Value} {R : Value → β → Prop} {m : List (κ × β)} {dn : Nat → Prop}
theorem Mr.atI {es : List (Value × Value × Nat)} (hr : Mr kv R es m) : ∀ {i : Nat} {e : Value × Value × Nat}, es[i]? = some e → ∃ x, m[i]? = some x ∧ e.1 = kv x.1 ∧ R e.2.1 x.2 := by
 induction hr with
 | nil => intro i e h; simp at h
 | cons hk hv _ ih =>
  intro i e h
  cases i with
  | zero => simp at h; subst h; exact ⟨_, rfl, hk, hv⟩
  | succ i => simp at h; simpa using ih h
def leftOf (es : List (Value × Value × Nat)) (seen : List Nat) : List (Value × Value × Nat) := es.filter fun e => !seen.contains e.2.2
def Itr (h : AH) (it b : Nat) (kv : κ → Value) (R : Value → β → Prop) (m : List (κ × β)) (dn : Nat → Prop) (c : Nat) : Prop :=
 ∃ es cl seen, h.m.get b = some (.map es cl false) ∧ Mr kv R es m ∧ (es.map (·.2.2)).Nodup ∧ (∀ e, e ∈ es → e.2.2 < cl) ∧ h.m.get it = some (.iter (some b) cl seen cl) ∧
  (∀ i e, es[i]? = some e → (e.2.2 ∈ seen ↔ dn i)) ∧ b < h.next ∧ it < h.next ∧ it ≠ b ∧ c = (leftOf es seen).length
theorem Itr.start {T kt el : TypeId} (hT : P.underlying T = some (.map kt el)) (hm : Mp h b kv R m) (hb : Mb h b) :
   ∃ h', aRange P T (.map (some b)) h = some (.pointer (some ⟨h.next, 0, none⟩), h') ∧ (∃ c, Itr h' h.next b kv R m (fun _ => False) c) ∧ Sm Nix h h' ∧ h'.next = h.next + 1 := by
 obtain ⟨hl, es, cl, h1, h2⟩ := hm
 obtain ⟨es', cl', h3, h4, h5⟩ := hb
 rw [h1] at h3
 cases h3
 unfold aRange
 simp only [hT, h1]
 refine ⟨h.push (.iter (some b) cl [] cl), rfl, ⟨_, es, cl, [], ?_, h2, h4, h5, push_get _ _, fun i e _ => ?_, Nat.lt_succ_of_lt hl, Nat.lt_succ_self _, by omega, rfl⟩, .push _ _, rfl⟩
 · exact ((Sm.push h (.iter (some b) cl [] cl)).get b hl (fun x => x)).trans h1
 · simp
theorem filter_lt {α : Type} (p q : α → Bool) (hpq : ∀ x, q x = true → p x = true) : ∀ (l : List α) (a : α), a ∈ l → p a = true → q a = false → (l.filter q).length < (l.filter p).length
 | [], a, h, _, _ => by cases h
 | x :: l, a, h, hp, hq => by
  have le : ∀ l : List α, (l.filter q).length ≤ (l.filter p).length := by
    intro l
    induction l with
    | nil => exact Nat.le_refl _
    | cons y l ih =>
      rw [List.filter_cons, List.filter_cons]
      by_cases hy : q y = true
      · rw [if_pos hy, if_pos (hpq y hy)]; simp; exact ih
      · rw [if_neg hy]; split
        · simp; omega
        · exact ih
  rw [List.filter_cons, List.filter_cons]
  rcases List.mem_cons.1 h with rfl | h
  · rw [if_pos hp, if_neg (by rw [hq]; simp)]
    have := le l; simp; omega
  · have ih := filter_lt p q hpq l a h hp hq
    by_cases hy : q x = true
    · rw [if_pos hy, if_pos (hpq x hy)]; simp; exact ih
    · rw [if_neg hy]; split
      · simp; omega
      · exact ih
theorem find_age : ∀ (es : List (Value × Value × Nat)) (e : Value × Value × Nat), (es.map (·.2.2)).Nodup → e ∈ es → es.find? (fun x => x.2.2 == e.2.2) = some e
 | [], e, _, h => by cases h
 | x :: es, e, hn, h => by
  rw [List.map_cons, List.nodup_cons] at hn
  rw [List.find?_cons]
  rcases List.mem_cons.1 h with rfl | h
  · simp
  · have hne : x.2.2 ≠ e.2.2 := fun h5 => hn.1 (by rw [h5]; exact List.mem_map.2 ⟨e, h, rfl⟩)
    have : (x.2.2 == e.2.2) = false := by simpa using hne
    rw [this]
    exact find_age es e hn.2 h
theorem Itr.next (H : Itr h it b kv R m dn c) : ∃ l, aNext (.pointer (some ⟨it, 0, none⟩)) false h = some l ∧ ∀ p, p ∈ l →
   (p = (.tuple ⟨[.bool false]⟩, h) ∧ ∀ i, i < m.length → dn i) ∨
   ∃ i x v c', m[i]? = some x ∧ ¬ dn i ∧ R v x.2 ∧ p.1 = .tuple ⟨[.bool true, kv x.1, v]⟩ ∧ c' < c ∧ Itr p.2 it b kv R m (fun j => j = i ∨ dn j) c' ∧ Sm (fun x => x = it) h p.2 ∧ p.2.next = h.next ∧ aEntryIt (.pointer (some ⟨it, 0, none⟩)) p.2 = some (.tuple ⟨[kv x.1, v]⟩) := by
 obtain ⟨es, cl, seen, h1, h2, h3, h4, h5, h6, h7, h8, h9, hc⟩ := H
 unfold aNext
 simp only [h5, h1]
 have hno : (!seen.isEmpty && !es.isEmpty && es.all fun e => decide (e.2.2 ≥ cl)) = false := by
   cases es with
   | nil => simp
   | cons e es =>
     have := h4 e (by simp)
     have : ¬ e.2.2 ≥ cl := by omega
     simp [this]
 rw [hno]
 refine ⟨_, rfl, fun p hp => ?_⟩
 unfold nextOuts at hp
 have hold : (es.filter fun e => !seen.contains e.2.2).filter (fun e => decide (e.2.2 < cl)) = es.filter fun e => !seen.contains e.2.2 := by
   refine List.filter_eq_self.2 fun e he => ?_
   simpa using h4 e (List.mem_filter.1 he).1
 have hnew : (es.filter fun e => !seen.contains e.2.2).filter (fun e => !decide (e.2.2 < cl)) = [] := by
   refine List.filter_eq_nil_iff.2 fun e he => ?_
   simpa using h4 e (List.mem_filter.1 he).1
 dsimp only at hp
 rw [hold, hnew, List.append_nil] at hp
 rcases List.mem_append.1 hp with hp | hp
 · split at hp
   · rename_i he
     cases List.mem_singleton.1 hp
     refine .inl ⟨rfl, fun i hi => ?_⟩
     rw [← h2.length] at hi
     have hg : es[i]? = some es[i] := List.getElem?_eq_getElem hi
     refine (h6 i _ hg).1 ?_
     rw [List.isEmpty_iff, List.filter_eq_nil_iff] at he
     have := he es[i] (List.getElem_mem hi)
     simpa using this
   · cases hp
 · obtain ⟨e, he, rfl⟩ := List.mem_map.1 hp
   obtain ⟨he1, he2⟩ := List.mem_filter.1 he
   obtain ⟨i, hi, hie⟩ := List.getElem_of_mem he1
   have hg : es[i]? = some e := by rw [List.getElem?_eq_getElem hi, hie]
   obtain ⟨x, hx, hk, hv⟩ := h2.atI hg
   have hns : ¬ e.2.2 ∈ seen := by simpa using he2
   refine .inr ⟨i, x, e.2.1, _, hx, fun hd => hns ((h6 i e hg).2 hd), hv, by rw [hk], ?_, ⟨es, cl, seen ++ [e.2.2], ?_, h2, h3, h4, ?_, fun j e' hj => ?_, h7, h8, h9, rfl⟩, ⟨Nat.le_refl _, fun y _ hn => ?_⟩, rfl, ?_⟩
   · rw [hc]
     refine filter_lt _ _ (fun y hy => ?_) es e he1 he2 (by simp)
     simp at hy ⊢
     exact hy.1
   · show (h.m.set it _).get b = _
     rw [X.T.get_set, if_neg (fun e => h9 e.symm)]; exact h1
   · show (h.m.set it _).get it = _
     rw [X.T.get_set, if_pos rfl]
   · rw [List.mem_append, List.mem_singleton, h6 j e' hj]
     constructor
     · rintro (h | h)
       · exact .inr h
       · refine .inl ?_
         have hjl := (List.getElem?_eq_some_iff.1 hj).1
         have h10 : (es.map (·.2.2))[j]'(by simpa using hjl) = (es.map (·.2.2))[i]'(by simpa using hi) := by
          rw [List.getElem_map, List.getElem_map, hie, (List.getElem?_eq_some_iff.1 hj).2]; exact h
         exact (List.getElem_inj h3).1 h10
     · rintro (rfl | h)
       · rw [hg] at hj; cases hj; exact .inr rfl
       · exact .inl h
   · show (h.m.set it _).get y = _
     rw [X.T.get_set, if_neg hn]
   · have g1 : ({ h with m := h.m.set it (some (.iter (some b) cl (seen ++ [e.2.2]) cl)) } : AH).m.get it = some (.iter (some b) cl (seen ++ [e.2.2]) cl) := by
       show (h.m.set it _).get it = _
       rw [X.T.get_set, if_pos rfl]
     have g2 : ({ h with m := h.m.set it (some (.iter (some b) cl (seen ++ [e.2.2]) cl)) } : AH).m.get b = some (.map es cl false) := by
       show (h.m.set it _).get b = _
       rw [X.T.get_set, if_neg (fun e => h9 e.symm)]; exact h1
     unfold aEntryIt
     dsimp only
     simp only [g1, g2, List.getLast?_append, List.getLast?_singleton, Option.some_or, if_true, find_age es e h3 he1]
     rw [hk]
end
section
variable {P : Program} [Kn P] {n : Nat} {ops : Array Oper} {Q : Post} {o : Oper} {rest : List Oper} {f : Fr} {h : AH} {it b c : Nat} {κ β : Type} {kv : κ → Value} {R : Value → β → Prop} {m : List (κ × β)} {dn : Nat → Prop}
theorem L_rg {T : TypeId} {x : Operand} {a v : Value} (h' : AH) (ho : o.op = .range T x) (hs : okO n o = true) (ha : ev n f x = some a) (hv : aRange P T a h = some (v, h'))
  (k : L P n ops Q rest (updO f o.dst v) h') : L P n ops Q (o :: rest) f h :=
 L_dov (okO_ok hs).1 (okO_ok hs).2 (by rw [ho]; rfl) (by rw [ho]; simp only [evAct, ha, hv]; rfl) k
theorem L_nx {x : Operand} (ho : o.op = .next x false) (hs : okO n o = true) (ha : ev n f x = some (.pointer (some ⟨it, 0, none⟩))) (H : Itr h it b kv R m dn c)
   (k0 : (∀ i, i < m.length → dn i) → L P n ops Q rest (updO f o.dst (.tuple ⟨[.bool false]⟩)) h)
   (k1 : ∀ i x v c' h', m[i]? = some x → ¬ dn i → R v x.2 → c' < c → Itr h' it b kv R m (fun j => j = i ∨ dn j) c' → Sm (fun x => x = it) h h' → h'.next = h.next → aEntryIt (.pointer (some ⟨it, 0, none⟩)) h' = some (.tuple ⟨[kv x.1, v]⟩) → L P n ops Q rest (updO f o.dst (.tuple ⟨[.bool true, kv x.1, v]⟩)) h') :
   L P n ops Q (o :: rest) f h := by
 obtain ⟨l, hl, hp⟩ := H.next
 refine L_any (l := l.map fun p => (.val p.1, p.2)) (okO_ok hs).1 (okO_ok hs).2 (by rw [ho]; rfl) (by rw [ho]; simp only [evAct, ha, hl]; rfl) fun p hm => ?_
 obtain ⟨q, hq, rfl⟩ := List.mem_map.1 hm
 refine ⟨_, rfl, ?_⟩
 rcases hp q hq with ⟨rfl, h1⟩ | ⟨i, x, v, c', h1, h2, h3, h4, h5, h6, h7, h8, h10⟩
 · exact k0 h1
 · dsimp only
   rw [h4]
   exact k1 i x v c' q.2 h1 h2 h3 h5 h6 h7 h8 h10
end
end
end Go.Arm
namespace Go.Arm
noncomputable section
open Go Go.X
abbrev ptr (b : Nat) : Value := .pointer (some ⟨b, 0, none⟩)
inductive Th
 | no
 | cl (l : List Value)
 | sd (k n : Nat) (cs : List Value)
 | gr (k n : Nat) (cs : List Value)
 | ws (n : Nat) (cs : List Value)
 | wl (k : Nat) (css : List (List Value))
 | mi (m : List (Int × Value))
 | mp (m : List ((Int × Int) × Value))
def nk (x : Nat) : Value := nv (x : Int)
section
variable {h h' : AH} {S : Nat → Prop} {v : Value} {k n : Nat} {cs : List Value}
end
end
end Go.Arm
namespace Go.Arm
noncomputable section
open Go Go.X Go.Mt
inductive Ro
 | wd
 | prs
 | ways
 | way (a b : Int)
 | pr (p : Nat)
 | rqs (p : Nat)
 | exs (p : Nat)
 | inb (p : Nat)
 | msg (p : Nat)
 | rcv (p : Nat)
 | crd (p : Nat)
 | rq (p no : Nat)
 | pcs (p no : Nat)
 | snt (p no : Nat)
 | xo
 | xw (i : Nat)
 | xr (p : Nat)
 | xg (p no : Nat)
 | xn (p no : Nat)
 | xp (p no : Nat)
deriving DecidableEq
structure Gh where
 B : Ro → Nat
 S : Ro → Value
 C : Ro → Th
 ro : Nat → Prop
section
variable {G G' G'' : Gh} {h h' h'' : AH} {S : Nat → Prop} {r : Ro}
end
end
end Go.Arm
namespace Go.Arm
noncomputable section
open Go Go.X
def Rb (h : AH) (v : Value) (cs : List Value) : Prop :=
 (cs = [] ∧ ∃ a c, v = .slice a 0 c ∧ (a = none → c = 0) ∧ ∀ q, a = some q → q.block < h.next) ∨
  ∃ b o c, cs ≠ [] ∧ c ≠ 0 ∧ v = .slice (some ⟨b, o, none⟩) cs.length c ∧ b < h.next ∧ ∀ j, j < cs.length → h.cell ⟨b, o + j, none⟩ = cs[j]?
section
variable {P : Program} {h h' : AH} {S : Nat → Prop} {v : Value} {cs : List Value} {n : Nat} {T el : TypeId}
theorem cell_sm (s : Sm S h h') {b o : Nat} (hl : b < h.next) (hb : ¬ S b) : h'.cell ⟨b, o, none⟩ = h.cell ⟨b, o, none⟩ := by
 unfold AH.cell
 simp only [s.get b hl hb]
theorem Rb.sm (H : Rb h v cs) (s : Sm S h h') (hb : ∀ b, vb v = some b → ¬ S b) : Rb h' v cs := by
 rcases H with ⟨h0, a, c, e, h1, h2⟩ | ⟨b, o, c, h0, h1, rfl, h2, h3⟩
 · exact .inl ⟨h0, a, c, e, h1, fun q hq => Nat.lt_of_lt_of_le (h2 q hq) s.nx⟩
 · exact .inr ⟨b, o, c, h0, h1, rfl, Nat.lt_of_lt_of_le h2 s.nx, fun j hj => by rw [cell_sm s h2 (hb b rfl)]; exact h3 j hj⟩
theorem Rb.ext (H : Rb h v cs) (s : Sm Nix h h') : Rb h' v cs := H.sm s fun _ _ x => x
theorem Rb.form (H : Rb h v cs) : ∃ a c, v = .slice a cs.length c := by
 rcases H with ⟨h0, a, c, e, h1, h2⟩ | ⟨b, o, c, h0, h1, rfl, h2, h3⟩
 · subst h0; exact ⟨a, c, e⟩
 · exact ⟨_, c, rfl⟩
theorem Rb.lenA (H : Rb h v cs) (hT : P.underlying T = some (.slice el)) (h' : AH) : aLen P T v h' = some (.int .i64 cs.length) := by
 obtain ⟨a, c, rfl⟩ := H.form
 unfold aLen
 simp only [hT]
end
end
end Go.Arm
namespace Go.Arm
noncomputable section
open Go Go.X Go.Mt
class Tys where
 e : TypeId
 a : TypeId
 c : TypeId
 l : TypeId
 b : TypeId
 p : TypeId
def bv (x : UInt8) : Value := .int .u8 x.toNat
section
variable {α : Type} {R R' : α → List Value → Prop} {k : Nat} {l m : List α} {cs ds : List Value}
end
variable [Tys]
section
variable {W : Wd} {G : Gh} {h h' : AH} {ro ro' : Nat → Prop} {p no : Nat} {v : Value} {d : By}
end
end
end Go.Arm




namespace Go.Arm
noncomputable section
open Go Go.X Go.Mt
section
variable {W : Wd} {G G' : Gh} {h h' h'' : AH} {ro ro' ro'' : Nat → Prop} {S : Nat → Prop} {x : Pr} {q : Nat → Rq} {p k : Nat} {v : Value} {d : By} {α : Type} {R R' : α → List Value → Prop} {l : List α}
def elB : Value → Nat
 | .slice (some a) _ _ => a.block
 | _ => 0
def elO (k i : Nat) : Value → Nat
 | .slice (some a) _ _ => a.off + i * k
 | _ => 0
end
end
end Go.Arm










namespace Go.Arm
noncomputable section
open Go Go.X
theorem find_step {α : Type} {l : List α} {pr : α → Bool} {k : Nat} {x : α} (hf : l.findIdx? pr = ((l.drop k).findIdx? pr).map (· + k)) (hdr : l.drop k = x :: l.drop (k + 1)) (hfb : pr x = false) : l.findIdx? pr = ((l.drop (k + 1)).findIdx? pr).map (· + (k + 1)) := by
 rw [hf, hdr, List.findIdx?_cons, hfb]
 cases (l.drop (k + 1)).findIdx? pr with
 | none => rfl
 | some i => simp; omega
section
variable {P : Program} {h h' : AH} {b : Nat} {κ : Type} [DecidableEq κ] {kv : κ → Value} {m : List (κ × Value)} {T kt el : TypeId} {z : Value}
end
section
variable {P : Program} [Kn P] {n : Nat} {h h' : AH} {Q : Post} {f : Fr} {ops : Array Oper} {rest : List Oper} {o : Oper} {v : Value}
end
end
end Go.Arm
namespace Go.Arm
noncomputable section
open Go Go.X
section
variable {P : Program} {h h' : AH} {k n i b o nn : Nat} {cs : List Value} {T xT el : TypeId} {cc : X.T Value}
theorem bnd_nat (i d : Nat) : bnd (some (.int .i64 (i : Nat))) d = some i := by unfold bnd; simp
theorem cut2 (hT : P.underlying T = some (.slice el)) (hk : szOf P el = some k) (hb : h.m.get b = some (.cells cc nn k false)) (hi : i ≤ n) :
  aSl P T (.slice (some ⟨b, o, none⟩) n open_) none (some (.int .i64 (i : Nat))) none h = some (.slice (some ⟨b, o, none⟩) i open_) := by
 have e0 : X.opOf h b = some (nn, k) := by unfold X.opOf; rw [hb]
 have : aSlice P T (.slice (some ⟨b, o, none⟩) n open_) none (some (.int .i64 (i : Nat))) none h = some (.slice (some ⟨b, o, none⟩) i open_) := by
  unfold aSlice
  rw [if_pos (show mxOk _ _ = true from rfl)]
  simp only [hT, hk, if_true]
  have e2 : bnd (some (.int .i64 (i : Nat))) n = some i := bnd_nat _ _
  have e3 : bnd none 0 = some 0 := rfl
  simp only [e2, e3, e0]
  rw [if_pos ⟨by omega, trivial, .inl hi⟩]
  simp
 unfold aSl; rw [this]
end
end
end Go.Arm
namespace Go.Arm
noncomputable section
open Go Go.X
theorem Rk_i {P : Program} {n : Nat} {ops : Array Oper} {f : Fr} {h : AH} {i : Nat} {r : List Nat} {o : Oper} {op : BinOp} {T T' : TypeId} {x y : Operand} {g : Int → Int → Value} {d : Nat} (a b : Int) (v : Value) (ho : ops[i]? = some o) (hop : o.op = .binOp op T x y T') (hd : o.dst = some d) (hx : ev n f x = some (.int .i64 a)) (hy : ev n f y = some (.int .i64 b)) (hg : kInt op = some g) (hv : g a b = v) (hf : f d = v) (k : Rk P n ops f h r) : Rk P n ops f h (i :: r) :=
 Rk_v (v := v) ho hd (by rw [hop, ev_int hx hy hg, hv]) hf k
theorem Gr.open {h : AH} {k n : Nat} {v : Value} {cs : List Value} (g : Gr h k v n cs) (hn : 0 < n) : ∃ b o cc nn, v = .slice (some ⟨b, o, none⟩) n open_ ∧ b < h.next ∧ h.m.get b = some (.cells cc nn k false) ∧ o + n * k ≤ nn ∧ ∀ j, j < cs.length → cc.get (o + j) = cs[j]? := by
 rcases g.2 with ⟨h0, _⟩ | ⟨b, o, cc, nn, e, h2, h3, h4, h5, h6⟩
 · omega
 · exact ⟨b, o, cc, nn, e, h2, h3, h5, h6⟩
end
end Go.Arm

namespace Go.Arm
noncomputable section
open Go Go.X Go.Mt
section
variable {W W' : Wd} {G G' G0 : Gh} {h h' h0 h1 h2 : AH} {x : Pr} {q : Nat → Rq} {p k i no : Nat} {v : Value} {d : By}
theorem Cl.sdX {b n k : Nat} {cs : List Value} (hc : Cl h b cs) (hn : cs.length = n * k) : Sd h k (.slice (some ⟨b, 0, none⟩) n n) n cs := by
 refine ⟨hn, ?_⟩
 obtain ⟨h1, c, op, h2, h3⟩ := hc
 by_cases h0 : n = 0
 · exact .inl ⟨h0, some ⟨b, 0, none⟩, n, by rw [h0], (fun e => by cases e), (fun q hq => by cases hq; exact h1)⟩
 · exact .inr ⟨b, 0, n, c, cs.length, op, false, by omega, h0, rfl, h1, h2, by omega, fun j hj => by rw [Nat.zero_add]; exact h3 j hj⟩
theorem Gr.cutL {P : Program} {T el : TypeId} {cs : List Value} {n i : Nat} (g : Gr h k v n cs) (hT : P.underlying T = some (.slice el)) (hk : szOf P el = some k) (hn : 0 < n) (hi : i ≤ n) :
   aSl P T v none (some (nv (i : Int))) none h = some (.slice (some ⟨elB v, elO k 0 v, none⟩) i open_) ∧ Sd h k (.slice (some ⟨elB v, elO k 0 v, none⟩) i open_) i (cs.take (i * k)) ∧ vb v = some (elB v) := by
 obtain ⟨hl, hg⟩ := g
 rcases hg with ⟨h0, _⟩ | ⟨b, o, cc, nn, rfl, h2, h3, hk0, h5, h6⟩
 · omega
 · have e : elO k 0 (.slice (some ⟨b, o, none⟩) n open_) = o := by show o + 0 * k = o; omega
   rw [e]
   have hle := Nat.mul_le_mul_right k hi
   have htl : (cs.take (i * k)).length = i * k := by rw [List.length_take]; omega
   refine ⟨cut2 hT hk h3 hi, ⟨htl, ?_⟩, rfl⟩
   by_cases h0 : i = 0
   · subst h0
     exact .inl ⟨rfl, some ⟨b, o, none⟩, open_, rfl, (fun e => by cases e), fun q hq => by cases hq; exact h2⟩
   · exact .inr ⟨b, o, open_, cc, nn, k, false, by omega, open_ne, rfl, h2, h3, by omega, fun j hj => by rw [htl] at hj; rw [h6 j (by omega), List.getElem?_take, if_pos hj]⟩
end
end
end Go.Arm
namespace Go.Arm
noncomputable section
open Go Go.X
section
variable {P : Program}
theorem s2b_ok {s d e : TypeId} {h : AH} {ds : TypeDesc} (hs : P.underlying s = some ds) (hd : P.underlying d = some (.slice e)) (he : P.underlying e = some (.int .u8)) (l : List UInt8) :
   ∃ v h', aS2B P s d (.string ⟨⟨l⟩⟩) h = some [(.val v, h')] ∧ Rb h' v (l.map bv) ∧ Sm Nix h h' ∧ h'.next = h.next + 1 ∧ ∀ b, vb v = some b → b = h.next := by
 have hv : byteVals ⟨⟨l⟩⟩ = l.map bv := rfl
 refine ⟨_, _, by unfold aS2B; simp only [hs, hd, he]; rfl, ?_, ⟨Nat.le_succ _, fun k hk _ => ?_⟩, rfl, fun b hb => (by cases hb; rfl)⟩
 · rw [hv]
   by_cases h0 : l.map bv = []
   · rw [h0]
     exact .inl ⟨rfl, _, _, rfl, (fun e => by cases e), fun q hq => by cases hq; exact Nat.lt_succ_self _⟩
   · refine .inr ⟨h.next, 0, open_, h0, by decide, rfl, Nat.lt_succ_self _, fun j hj => ?_⟩
     unfold AH.cell
     dsimp only
     rw [X.T.get_set, if_pos rfl]
     dsimp only
     rw [Nat.zero_add, if_pos hj, X.T.get_fill, if_pos (by omega)]
     rfl
 · show (h.m.set h.next _).get k = _
   rw [X.T.get_set, if_neg (by omega)]
end
section
variable {P : Program} [Kn P] {n : Nat} {h h' : AH} {Q : Post} {f : Fr} {ops : Array Oper} {rest : List Oper} {o : Oper}
theorem L_sb {s d : TypeId} {x : Operand} {a : Value} (v : Value) (h' : AH) (ho : o.op = .convert s d x) (hs : okO n o = true) (hx : ev n f x = some a) (hn : aConv P s d a h = none) (hv : aS2B P s d a h = some [(.val v, h')])
  (k : L P n ops Q rest (updO f o.dst v) h') : L P n ops Q (o :: rest) f h :=
 L_bu (okO_ok hs).1 (okO_ok hs).2 (by rw [ho]; rfl) (by rw [ho]; simp only [evVal, hx]; exact hn) (by rw [ho]; simp only [evAct, hx]; exact hv) k
end
section
variable {P : Program} {h : AH}
end
end
end Go.Arm


namespace Go.Arm
noncomputable section
open Go Go.X
section
variable {P : Program} {n : Nat} {T el : TypeId}
theorem ev_mkK {f : Fr} {x y : Operand} {m by_ k : Nat} {z : Value} (hT : P.underlying T = some (.slice el)) (hs : szOf P el = some k) (hb : byOf P el = some by_) (hz : zeroOf P el = some z) (hzl : (cellsL z).length = k) (hm : m * (by_ + 1) < 1099511627776)
  (hx : ev n f x = some (.int .i64 (m : Nat))) (hy : ev n f y = some (.int .i64 (m : Nat))) : evAl P n f (.makeSlice T x y) = some (.cells (zrep m (cellsL z)), .sl m m) := by
 have hm2 : m < 1099511627776 := by
  have : m * 1 ≤ m * (by_ + 1) := Nat.mul_le_mul_left _ (by omega)
  omega
 have e0 : evAl0 P n f (.makeSlice T x y) = some (.cells (zrep m (cellsL z)), .sl m m) := by
  unfold evAl0
  simp only [hx, hy, hT, hs, hb, hz]
  rw [if_pos ⟨by omega, by omega, by
   have h9 : ((m * (by_ + 1) : Nat) : Int) < ((1099511627776 : Nat) : Int) := Int.ofNat_lt.2 hm
   rw [Int.natCast_mul, Int.natCast_add] at h9
   exact h9, hzl⟩]
  simp only [Int.toNat_natCast]
 unfold evAl
 rw [e0]
 dsimp only
 rw [if_pos]
 show decide (m < open_) = true
 rw [decide_eq_true_eq]
 have : 1099511627776 < open_ := by decide
 omega
end
end
end Go.Arm

