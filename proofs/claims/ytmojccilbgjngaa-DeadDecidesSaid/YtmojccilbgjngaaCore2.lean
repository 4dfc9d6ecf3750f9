/- The memory part of the core: a world with claims, data that read out of it, and what steps do to both. -/
import Derived.Test.YtmojccilbgjngaaCore1
namespace Go.Arm
open Go Go.RowKit

structure St where
 w : World
 g : Nat → Nat
 ok : ∀ b, w.heap.size ≤ b → g b = 0

structure Le (s s' : St) : Prop where
 g : ∀ b, s.g b ≤ s'.g b
 cell : ∀ b o, o < s.g b → s'.w.cell? ⟨b, o, none⟩ = s.w.cell? ⟨b, o, none⟩
 obj : ∀ b, 0 < s.g b → (∀ c e z, s.w.heap[b]? ≠ some (.cells c e z)) → s'.w.heap[b]? = s.w.heap[b]?

theorem Le.refl (s : St) : Le s s := ⟨fun _ => Nat.le_refl _, fun _ _ _ => rfl, fun _ _ _ => rfl⟩
theorem Le.trans {a b c : St} (h : Le a b) (k : Le b c) : Le a c :=
 ⟨fun x => Nat.le_trans (h.g x) (k.g x), fun x o hx => (k.cell x o (Nat.lt_of_lt_of_le hx (h.g x))).trans (h.cell x o hx),
 fun x hx hc => by
  have e := h.obj x hx hc
  rw [← e]
  exact k.obj x (Nat.lt_of_lt_of_le hx (h.g x)) (fun c e' z => by rw [e]; exact hc c e' z)⟩

structure Tch (M : Nat → Prop) (s s' : St) : Prop where
 os : s'.w.os = s.w.os
 tape : s'.w.tape = s.w.tape
 output : s'.w.output = s.w.output
 size : s.w.heap.size ≤ s'.w.heap.size
 block : ∀ k, k < s.w.heap.size → ¬ M k → s'.w.heap[k]? = s.w.heap[k]?
 g : ∀ k, k < s.w.heap.size → ¬ M k → s'.g k = s.g k
 le : Le s s'

def No : Nat → Prop := fun _ => False
abbrev Ext (s s' : St) : Prop := Tch No s s'

theorem Tch.refl (M : Nat → Prop) (s : St) : Tch M s s := ⟨rfl, rfl, rfl, Nat.le_refl _, fun _ _ _ => rfl, fun _ _ _ => rfl, Le.refl s⟩
theorem Tch.trans {M M' : Nat → Prop} {a b c : St} (h : Tch M a b) (k : Tch M' b c) (hm : ∀ x, M' x → M x ∨ a.w.heap.size ≤ x) : Tch M a c :=
 ⟨k.os.trans h.os, k.tape.trans h.tape, k.output.trans h.output, Nat.le_trans h.size k.size,
 fun x hx nx => (k.block x (Nat.lt_of_lt_of_le hx h.size) (fun mx => (hm x mx).elim nx (fun y => by omega))).trans (h.block x hx nx),
 fun x hx nx => (k.g x (Nat.lt_of_lt_of_le hx h.size) (fun mx => (hm x mx).elim nx (fun y => by omega))).trans (h.g x hx nx),
 h.le.trans k.le⟩
theorem Tch.ext {M : Nat → Prop} {a b c : St} (h : Tch M a b) (k : Ext b c) : Tch M a c := h.trans k (fun _ x => x.elim)
theorem Ext.trans {a b c : St} (h : Ext a b) (k : Ext b c) : Ext a c := Tch.trans h k (fun _ x => x.elim)
theorem Tch.mono {M M' : Nat → Prop} {a b : St} (h : Tch M a b) (hm : ∀ x, M x → M' x) : Tch M' a b :=
 ⟨h.os, h.tape, h.output, h.size, fun k hk nk => h.block k hk (fun x => nk (hm k x)), fun k hk nk => h.g k hk (fun x => nk (hm k x)), h.le⟩
theorem Ext.to {M : Nat → Prop} {a b : St} (h : Ext a b) : Tch M a b := h.mono (fun _ x => x.elim)
theorem Ext.refl (s : St) : Ext s s := Tch.refl _ s

theorem le_of_blocks {s s' : St} (hb : ∀ k, k < s.w.heap.size → s'.w.heap[k]? = s.w.heap[k]?) (hg : ∀ k, k < s.w.heap.size → s.g k ≤ s'.g k) : Le s s' := by
 refine ⟨fun b => ?_, fun b o ho => ?_, fun b hp _ => ?_⟩
 ·rcases Nat.lt_or_ge b s.w.heap.size with h | h
  ·exact hg b h
  ·rw [s.ok b h]; exact Nat.zero_le _
 ·rcases Nat.lt_or_ge b s.w.heap.size with h | h
  ·simp only [World.cell?]; rw [hb b h]
  ·rw [s.ok b h] at ho; omega
 ·rcases Nat.lt_or_ge b s.w.heap.size with h | h
  ·exact hb b h
  ·rw [s.ok b h] at hp; omega

/-! Data. -/

class Rep (α : Type) where
 size : Nat
 agg : Bool
 rel : St → List Value → α → Prop
 len : ∀ {s cs x}, rel s cs x → cs.length = size
 mono : ∀ {s s' cs x}, Le s s' → rel s cs x → rel s' cs x
 one : ∀ {s cs x}, rel s cs x → ∀ v, v ∈ cs → v.oneCell' = true
 single : agg = false → size = 1

def pack (agg : Bool) (cs : List Value) : Value := if agg then .agg cs.toArray else cs.headD undef

def V {α : Type} [Rep α] (s : St) (v : Value) (x : α) : Prop := ∃ cs, Rep.rel s cs x ∧ v = pack (Rep.agg α) cs

theorem V.mono {α : Type} [Rep α] {s s' : St} {v : Value} {x : α} (h : V s v x) (l : Le s s') : V s' v x := by
 obtain ⟨cs, h, e⟩ := h; exact ⟨cs, Rep.mono l h, e⟩

theorem V.cells {α : Type} [Rep α] {s : St} {v : Value} {x : α} (h : V s v x) : ∃ cs, Rep.rel s cs x ∧ v.cells = cs.toArray ∧ v = pack (Rep.agg α) cs := by
 obtain ⟨cs, h, e⟩ := h
 refine ⟨cs, h, ?_, e⟩
 subst e
 unfold pack
 cases ha : Rep.agg α with
 | true => simp [Value.cells]
 | false =>
  have h1 := Rep.len h
  rw [Rep.single ha] at h1
  match cs, h1 with
  | [c], _ =>
   have := Rep.one h c (by simp)
   simp only [List.headD_cons, Bool.false_eq_true, ↓reduceIte]
   cases c <;> simp_all [Value.cells, Value.oneCell']

def AtRO (s : St) (b o : Nat) (cs : List Value) : Prop :=
 ∀ j (h : j < cs.length), s.w.cell? ⟨b, o + j, none⟩ = some cs[j] ∧ o + j < s.g b

theorem AtRO.mono {s s' : St} {b o : Nat} {cs : List Value} (h : AtRO s b o cs) (l : Le s s') : AtRO s' b o cs :=
 fun j hj => ⟨(l.cell b _ (h j hj).2).trans (h j hj).1, Nat.lt_of_lt_of_le (h j hj).2 (l.g b)⟩

def Ptr {α : Type} [Rep α] (s : St) (v : Value) (x : α) : Prop := ∃ b o cs, v = .pointer (some ⟨b, o, none⟩) ∧ Rep.rel s cs x ∧ AtRO s b o cs

theorem Ptr.mono {α : Type} [Rep α] {s s' : St} {v : Value} {x : α} (h : Ptr s v x) (l : Le s s') : Ptr s' v x := by
 obtain ⟨b, o, cs, e, h, k⟩ := h; exact ⟨b, o, cs, e, Rep.mono l h, k.mono l⟩

instance : Rep Int where
 size := 1
 agg := false
 rel _ cs x := cs = [.int .i64 x]
 len h := by rw [h]; rfl
 mono _ h := h
 one h v hv := by rw [h] at hv; simp at hv; rw [hv]; rfl
 single _ := rfl

instance : Rep Bool where
 size := 1
 agg := false
 rel _ cs x := cs = [.bool x]
 len h := by rw [h]; rfl
 mono _ h := h
 one h v hv := by rw [h] at hv; simp at hv; rw [hv]; rfl
 single _ := rfl

structure U8 where
 n : Int
 deriving DecidableEq
instance : Rep U8 where
 size := 1
 agg := false
 rel _ cs x := cs = [.int .u8 x.n]
 len h := by rw [h]; rfl
 mono _ h := h
 one h v hv := by rw [h] at hv; simp at hv; rw [hv]; rfl
 single _ := rfl

theorem V.int {s : St} {v : Value} {x : Int} (h : V s v x) : v = .int .i64 x := by obtain ⟨cs, h, e⟩ := h; rw [e, h]; rfl
theorem V.bool {s : St} {v : Value} {x : Bool} (h : V s v x) : v = .bool x := by obtain ⟨cs, h, e⟩ := h; rw [e, h]; rfl
theorem Vint {s : St} {x : Int} : V s (.int .i64 x) x := ⟨_, rfl, rfl⟩
theorem Vbool {s : St} {x : Bool} : V s (.bool x) x := ⟨_, rfl, rfl⟩
def RowAt {α : Type} [Rep α] (s : St) (b o : Nat) (xs : List α) : Prop :=
 ∀ i (h : i < xs.length), ∃ cs, Rep.rel s cs xs[i] ∧ AtRO s b (o + i * Rep.size α) cs

theorem RowAt.mono {α : Type} [Rep α] {s s' : St} {b o : Nat} {xs : List α} (h : RowAt s b o xs) (l : Le s s') : RowAt s' b o xs :=
 fun i hi => let ⟨cs, h1, h2⟩ := h i hi; ⟨cs, Rep.mono l h1, h2.mono l⟩

def SliceRel {α : Type} [Rep α] (s : St) (cs : List Value) (xs : List α) : Prop :=
 ∃ base cap, cs = [.slice base xs.length cap] ∧ xs.length ≤ cap ∧ (xs ≠ [] → ∃ b o, base = some ⟨b, o, none⟩ ∧ RowAt s b o xs)

instance {α : Type} [Rep α] : Rep (List α) where
 size := 1
 agg := false
 rel := SliceRel
 len := by rintro s cs x ⟨base, cap, e, _⟩; rw [e]; rfl
 mono := by
  rintro s s' cs x l ⟨base, cap, e, hc, h⟩
  exact ⟨base, cap, e, hc, fun hx => let ⟨b, o, e, hr⟩ := h hx; ⟨b, o, e, hr.mono l⟩⟩
 one := by rintro s cs x ⟨base, cap, e, _⟩ v hv; rw [e] at hv; simp at hv; rw [hv]; rfl
 single _ := rfl

theorem V.slice {α : Type} [Rep α] {s : St} {v : Value} {xs : List α} (h : V s v xs) :
  ∃ base cap, v = .slice base xs.length cap ∧ xs.length ≤ cap ∧ (xs ≠ [] → ∃ b o, base = some ⟨b, o, none⟩ ∧ RowAt s b o xs) := by
 obtain ⟨cs, ⟨base, cap, e, hc, h⟩, rfl⟩ := h
 exact ⟨base, cap, by rw [e]; rfl, hc, h⟩

theorem Vslice {α : Type} [Rep α] {s : St} {base : Option Addr} {len cap : Nat} {xs : List α} (hl : len = xs.length) (hc : xs.length ≤ cap)
  (h : xs ≠ [] → ∃ b o, base = some ⟨b, o, none⟩ ∧ RowAt s b o xs) : V s (.slice base len cap) xs :=
 ⟨_, ⟨base, cap, rfl, hc, h⟩, by rw [hl]; rfl⟩

theorem Vnil {α : Type} [Rep α] {s : St} : V s (.slice none 0 0) ([] : List α) := Vslice rfl (Nat.le_refl _) (fun h => (h rfl).elim)

def idx {α : Type} (xs : List α) (i : Int) : Option α := if 0 ≤ i then xs[i.toNat]? else none

theorem idx_some {α : Type} {xs : List α} {i : Int} {y : α} (h : idx xs i = some y) : 0 ≤ i ∧ i < xs.length ∧ xs[i.toNat]? = some y := by
 unfold idx at h
 split at h
 ·refine ⟨‹_›, ?_, h⟩
  have := (List.getElem?_eq_some_iff.1 h).1
  omega
 ·cases h


theorem bind_some {α β : Type} {o : Option α} {f : α → Option β} {r : β} (h : o.bind f = some r) : ∃ y, o = some y ∧ f y = some r :=
 Option.bind_eq_some_iff.1 h

end Go.Arm
