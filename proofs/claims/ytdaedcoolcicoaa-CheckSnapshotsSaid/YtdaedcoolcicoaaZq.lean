/- A part of the proof. -/
import Derived.Test.YtdaedcoolcicoaaZp
import Derived.Test.YtdaedcoolcicoaaZi
namespace Go.Arm
noncomputable section
open Go Go.X Go.RowKit
/-- All blocks are read only, and those of the caller. -/
def First (h : AH) : Prop := ∀ b o, h.m.get b = some o → o.ro = true
theorem hold {W : World} {φ : Phi} {h : AH} (r : R W φ h W) (hf : First h) {k : IntKind} {v : Value} {l : List Int} (H : Held k W v l) :
    ∃ v' φ' h', R W φ' h' W ∧ First h' ∧ Le φ φ' ∧ VR φ' v' v ∧ Sd h' 1 v' l.length (l.map (.int k)) ∧ Sm Nix h h' := by
  have bump : R W φ ⟨h.m, h.next + 1⟩ W := ⟨r.dom, r.low, r.inj, fun b i hi => ⟨(r.lt b i hi).1, Nat.lt_succ_of_lt (r.lt b i hi).2⟩, trivial, r.below⟩
  have smb : Sm Nix h ⟨h.m, h.next + 1⟩ := ⟨Nat.le_succ _, fun _ _ _ => rfl⟩
  rcases H.has with ⟨rfl, rfl⟩ | ⟨a, cap, rfl, hlc, hcm, hpos, hall⟩
  · exact ⟨.slice none 0 0, φ, _, bump, hf, Le.refl φ, .nils 0 0, Sd.nil, smb⟩
  · by_cases h0 : cap = 0
    · subst h0
      have hl0 : l = [] := List.length_eq_zero_iff.1 (by omega)
      subst hl0
      exact ⟨.slice (some ⟨h.next, 0, none⟩) 0 0, φ, _, bump, hf, Le.refl φ, .slice0 _ _ _, ⟨rfl, .inl ⟨rfl, _, _, rfl, (fun e => by cases e), fun q hq => by cases hq; exact Nat.lt_succ_self _⟩⟩, smb⟩
    · obtain ⟨hs, hb⟩ := hpos (by omega)
      obtain ⟨bk, off, spot⟩ := a
      dsimp only at hs hb hall
      subst hs
      have hopen : cap ≠ open_ := by
        have : maxLen < open_ := by decide
        omega
      by_cases hl0 : l = []
      · subst hl0
        have le : Le φ (fun b => if b = h.next then some (⟨bk, off, 0, 0, 0⟩ : Im) else φ b) := by
          intro b j hj
          have := (r.lt b j hj).2
          show (if b = h.next then _ else φ b) = some j
          rw [if_neg (by omega)]; exact hj
        have hget : ∀ b o, h.m.get b = some o → ∀ i, (if b = h.next then some (⟨bk, off, 0, 0, 0⟩ : Im) else φ b) = some i → h.m.get b = none ∨ φ b = some i ∨ b = h.next := by
          intro b o _ i hi
          by_cases e : b = h.next
          · exact .inr (.inr e)
          · rw [if_neg e] at hi; exact .inr (.inl hi)
        have hnone : h.m.get h.next = none ∨ ∃ o, h.m.get h.next = some o := by
          cases h.m.get h.next with
          | none => exact .inl rfl
          | some o => exact .inr ⟨o, rfl⟩
        have getm : ∀ b, (h.m.set h.next none).get b = if b = h.next then none else h.m.get b := fun b => T.get_set b
        refine ⟨.slice (some ⟨h.next, 0, none⟩) 0 cap, _, ⟨h.m.set h.next none, h.next + 1⟩, ⟨fun b i o hi ho => ?_, fun b i o hi ho hr => ?_, fun b b' i i' o o' hi hi' ho ho' hr hc => ?_, fun b i hi => ?_, trivial, r.below⟩, fun b o ho => ?_, le, ?_, ⟨rfl, .inl ⟨rfl, _, _, rfl, (fun e => by cases e), fun q hq => by cases hq; exact Nat.lt_succ_self _⟩⟩, ⟨Nat.le_succ _, fun b hb _ => by show (h.m.set h.next none).get b = _; rw [getm, if_neg (by omega)]⟩⟩
        · rw [getm] at ho
          by_cases e : b = h.next
          · rw [if_pos e] at ho; cases ho
          · rw [if_neg e] at ho hi; exact (r.dom b i o hi ho).mono le
        · rw [getm] at ho
          by_cases e : b = h.next
          · rw [if_pos e] at ho; cases ho
          · rw [if_neg e] at ho hi; exact r.low b i o hi ho hr
        · rw [getm] at ho
          by_cases e : b = h.next
          · rw [if_pos e] at ho; cases ho
          · rw [if_neg e] at ho; have := hf b o ho; rw [hr] at this; cases this
        · by_cases e : b = h.next
          · rw [if_pos e] at hi; cases hi; exact ⟨hb, by subst e; exact Nat.lt_succ_self _⟩
          · rw [if_neg e] at hi; exact ⟨(r.lt b i hi).1, Nat.lt_succ_of_lt (r.lt b i hi).2⟩
        · rw [getm] at ho
          by_cases e : b = h.next
          · rw [if_pos e] at ho; cases ho
          · rw [if_neg e] at ho; exact hf b o ho
        · have := VR.slice (φ := fun b => if b = h.next then some (⟨bk, off, 0, 0, 0⟩ : Im) else φ b) (a := ⟨h.next, 0, none⟩) (l := 0) (c := cap) ⟨bk, off, 0, 0, 0⟩ (if_pos rfl) rfl hopen
          simpa using this
      · have hl1 : 0 < l.length := List.length_pos_iff.2 hl0
        have hcell := (hall 0 hl1).1
        obtain ⟨arr, el, fz, hw⟩ : ∃ arr el fz, W.heap[bk]? = some (.cells arr el fz) := by
          unfold World.cell? at hcell
          split at hcell
          · rename_i e5; exact ⟨_, _, _, e5⟩
          · rw [List.getElem?_eq_getElem hl1] at hcell; cases hcell
        have hat : ∀ j, (hj : j < l.length) → arr[j + off]? = some (.int k l[j]) := by
          intro j hj
          have := (hall j hj).1
          unfold World.cell? at this
          rw [hw] at this
          rw [List.getElem?_eq_getElem hj] at this
          rw [Nat.add_comm]; simpa using this
        have hsz : l.length + off ≤ arr.size := by
          have := (Array.getElem?_eq_some_iff.1 (hat (l.length - 1) (by omega))).1
          omega
        have le : Le φ (fun b => if b = h.next then some (⟨bk, off, l.length, arr.size, 0⟩ : Im) else φ b) := by
          intro b j hj
          have := (r.lt b j hj).2
          show (if b = h.next then _ else φ b) = some j
          rw [if_neg (by omega)]; exact hj
        have getm : ∀ b, (h.m.set h.next (some (AObj.cells (T.fill (l.map (.int k)) 0 .e) l.length 0 true))).get b = if b = h.next then some (AObj.cells (T.fill (l.map (.int k)) 0 .e) l.length 0 true) else h.m.get b := fun b => T.get_set b
        refine ⟨.slice (some ⟨h.next, 0, none⟩) l.length cap, _, ⟨h.m.set h.next (some (AObj.cells (T.fill (l.map (.int k)) 0 .e) l.length 0 true)), h.next + 1⟩, ⟨fun b i o hi ho => ?_, fun b i o hi ho hr => ?_, fun b b' i i' o o' hi hi' ho ho' hr hc => ?_, fun b i hi => ?_, trivial, r.below⟩, fun b o ho => ?_, le, ?_, ⟨by simp, .inr ⟨h.next, 0, cap, _, l.length, 0, true, hl1, h0, rfl, Nat.lt_succ_self _, by show (h.m.set h.next _).get h.next = _; rw [getm, if_pos rfl], by omega, fun j hj => ?_⟩⟩, ⟨Nat.le_succ _, fun b hb _ => by show (h.m.set h.next _).get b = _; rw [getm, if_neg (by omega)]⟩⟩
        · rw [getm] at ho
          by_cases e : b = h.next
          · rw [if_pos e] at ho hi; cases ho; cases hi
            refine ⟨rfl, rfl, trivial, arr, el, ⟨fz, hw, (fun e => by cases e), fun j hj => ?_⟩, rfl, hsz, fun j hj => ?_⟩
            · have := (hall j hj).2
              rw [Nat.add_comm] at this; exact this
            · refine ⟨.int k l[j], .int k l[j], ?_, hat j hj, .int _ _⟩
              rw [T.get_fill, if_pos (by simp; omega)]
              simp [hj]
          · rw [if_neg e] at ho hi; exact (r.dom b i o hi ho).mono le
        · rw [getm] at ho
          by_cases e : b = h.next
          · rw [if_pos e] at ho; cases ho; cases hr
          · rw [if_neg e] at ho hi; exact r.low b i o hi ho hr
        · rw [getm] at ho
          by_cases e : b = h.next
          · rw [if_pos e] at ho; cases ho; cases hr
          · rw [if_neg e] at ho; have := hf b o ho; rw [hr] at this; cases this
        · by_cases e : b = h.next
          · rw [if_pos e] at hi; cases hi; exact ⟨hb, by subst e; exact Nat.lt_succ_self _⟩
          · rw [if_neg e] at hi; exact ⟨(r.lt b i hi).1, Nat.lt_succ_of_lt (r.lt b i hi).2⟩
        · rw [getm] at ho
          by_cases e : b = h.next
          · rw [if_pos e] at ho; cases ho; rfl
          · rw [if_neg e] at ho; exact hf b o ho
        · have := VR.slice (φ := fun b => if b = h.next then some (⟨bk, off, l.length, arr.size, 0⟩ : Im) else φ b) (a := ⟨h.next, 0, none⟩) (l := l.length) (c := cap) ⟨bk, off, l.length, arr.size, 0⟩ (if_pos rfl) rfl hopen
          simpa using this
        · rw [T.get_fill, if_pos (by simp at hj ⊢; omega)]
          simp
theorem first0 : First ah0 := fun b o h => by
  have : (T.e : T AObj).get b = some o := h
  rw [T.get_e] at this; cases this
end
end Go.Arm
