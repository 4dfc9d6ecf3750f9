/- Drawn regions that write: the form that the printed proofs use. -/
import Derived.Test.YtmojccilbgjngaaCoreF
namespace Go.Arm
open Go Go.RowKit

def unc (cons : List (List Nat)) (k j : Nat) : Bool := (List.range k).all fun i => !(cons.getD i []).contains j
theorem unc_spec {cons : List (List Nat)} {k j : Nat} (h : unc cons k j = true) : ∀ i, i < k → j ∉ cons.getD i [] := by
 intro i hi hm
 unfold unc at h
 rw [List.all_eq_true] at h
 have := h i (by simpa using hi)
 rw [List.contains_iff_mem.2 hm] at this
 simp at this

theorem ent0 {p : Nat → Prop} {k L : Nat} (hL : L = k) : ∀ j, k ≤ j → j < L → p j := fun j h1 h2 => by omega
theorem ent1 {p : Nat → Prop} {k L : Nat} (hL : L = k + 1) (h : p k) : ∀ j, k ≤ j → j < L → p j := fun j h1 h2 => by
 have : j = k := by omega
 rw [this]; exact h
theorem dis0 {p : Nat → Nat → Prop} {k L : Nat} (hL : L = k) : ∀ i j, k ≤ i → i < L → k ≤ j → j < L → i ≠ j → p i j := fun i j _ _ _ _ _ => by omega
theorem dis1 {p : Nat → Nat → Prop} {k L : Nat} (hL : L = k + 1) : ∀ i j, k ≤ i → i < L → k ≤ j → j < L → i ≠ j → p i j := fun i j _ _ _ _ _ => by omega
section
variable {P : Program} {n : Nat} {Q : Post} {f : Fr}
theorem W_drawP {id : Nat} {s : St} {l : List Oper} (hm : P.follows .mixedOrders = true) (k : Nat) (pxs : List PX) (slots : List Nat) (cons : List (List Nat)) (hk : l.toArray.size = k)
  (hok : planOk n l.toArray slots cons = true)
  (h0 : ∀ j, k ≤ j → j < slots.length → (pxs.getD j PX.any).p (f (slots.getD j 0)) s)
  (hd0 : ∀ i j, k ≤ i → i < slots.length → k ≤ j → j < slots.length → i ≠ j → ∀ b, (pxs.getD i PX.any).own (f (slots.getD i 0)) b → ¬ (pxs.getD j PX.any).own (f (slots.getD j 0)) b)
  (steps : StepsX P n l.toArray ⟨pxs, slots, cons⟩ f s l 0)
  (fin : ∀ f' s', Tch ((⟨pxs, slots, cons⟩ : Plan).ent l.toArray f) s s' → (∀ j, j < slots.length → unc cons k j = true → (pxs.getD j PX.any).p (f' (slots.getD j 0)) s') →
   (∀ i j, i < slots.length → j < slots.length → unc cons k i = true → unc cons k j = true → i ≠ j → ∀ b, (pxs.getD i PX.any).own (f' (slots.getD i 0)) b → ¬ (pxs.getD j PX.any).own (f' (slots.getD j 0)) b) →
   (∀ t, unwritten l.toArray t = true → f' t = f t) → Q .normal f' s'.w) :
  W P n (.region id l.toArray true) Q f s.w := by
 subst hk
 refine W_drawX hm ⟨pxs, slots, cons⟩ hok h0 (fun i j a b c d e => hd0 i j a b c d e) steps ?_
 intro f' s' hT hP hD _ hB
 exact fin f' s' hT (fun j hj hu => hP j hj (unc_spec hu)) (fun i j hi hj ui uj hne => hD i j hi hj (unc_spec ui) (unc_spec uj) hne) hB

theorem ent_none {pxs : List PX} {slots : List Nat} {cons : List (List Nat)} {ops : Array Oper} {k : Nat} (hk : ops.size = k) (hL : slots.length = k) (b : Nat) : ¬ (⟨pxs, slots, cons⟩ : Plan).ent ops f b := by
 rintro ⟨j, h1, h2, _⟩
 simp only at h2
 omega
theorem ent_one {pxs : List PX} {slots : List Nat} {cons : List (List Nat)} {ops : Array Oper} {k : Nat} (hk : ops.size = k) (hL : slots.length = k + 1) {b : Nat} (h : ¬ (pxs.getD k PX.any).own (f (slots.getD k 0)) b) : ¬ (⟨pxs, slots, cons⟩ : Plan).ent ops f b := by
 rintro ⟨j, h1, h2, h3⟩
 simp only at h2
 have : j = k := by omega
 subst this
 exact h h3
theorem ent_is {pxs : List PX} {slots : List Nat} {cons : List (List Nat)} {ops : Array Oper} {k : Nat} (hk : ops.size = k) (hL : slots.length = k + 1) {b : Nat} (h : (⟨pxs, slots, cons⟩ : Plan).ent ops f b) : (pxs.getD k PX.any).own (f (slots.getD k 0)) b := by
 obtain ⟨j, h1, h2, h3⟩ := h
 simp only at h2
 have : j = k := by omega
 subst this
 exact h3
end
end Go.Arm
