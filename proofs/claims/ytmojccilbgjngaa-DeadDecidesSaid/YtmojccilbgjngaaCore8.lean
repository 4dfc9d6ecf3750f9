/- A region that draws its order, where nothing that was there is written. -/
import Derived.Test.YtmojccilbgjngaaCore7
namespace Go.Arm
open Go Go.RowKit

section
variable {P : Program} {n : Nat} {Q : Post} {f : Fr} {w : World} {ops : Array Oper}

def aheadOf (o : Oper) (j : Nat) : Bool := o.after.any fun e => Region.binds .any e && e.on == j

def slotFree (ops : Array Oper) (i t : Nat) : Bool := ops.toList.all fun o => o.dst != some t || aheadOf o i

def drawOk (n : Nat) (ops : Array Oper) : Bool :=
 (List.range ops.size).all fun i => match ops[i]? with
  | none => true
  | some o => o.after.toList.all (fun e => !Region.binds .any e || decide (e.on < i)) &&
   (match o.dst with
   | none => false
   | some d => decide (d < n) && (List.range ops.size).all fun j => decide (j = i) || (match ops[j]? with | some o' => o'.dst != some d | none => true))

structure DrawSpec (n : Nat) (ops : Array Oper) : Prop where
 edge : ∀ (i : Nat) (o : Oper), ops[i]? = some o → ∀ e, e ∈ o.after.toList → Region.binds .any e = true → e.on < i
 dst : ∀ (i : Nat) (o : Oper), ops[i]? = some o → ∃ d, o.dst = some d ∧ d < n
 uniq : ∀ (i j : Nat) (o o' : Oper), ops[i]? = some o → ops[j]? = some o' → o.dst = o'.dst → i = j

theorem drawOk_spec (h : drawOk n ops = true) : DrawSpec n ops := by
 unfold drawOk at h
 rw [List.all_eq_true] at h
 have key : ∀ (i : Nat) (o : Oper), ops[i]? = some o → (∀ e, e ∈ o.after.toList → Region.binds .any e = true → e.on < i) ∧ ∃ d, o.dst = some d ∧ d < n ∧ ∀ j o', ops[j]? = some o' → j ≠ i → o'.dst ≠ some d := by
  intro i o ho
  have hi := (Array.getElem?_eq_some_iff.1 ho).1
  have := h i (by simpa using hi)
  rw [ho] at this
  simp only [Bool.and_eq_true, List.all_eq_true] at this
  refine ⟨fun e he hb => ?_, ?_⟩
  ·have := this.1 e he
   simpa [hb] using this
  ·cases hd : o.dst with
   | none => rw [hd] at this; simp at this
   | some d =>
    rw [hd] at this
    simp only [Bool.and_eq_true, decide_eq_true_eq, List.all_eq_true] at this
    refine ⟨d, rfl, this.2.1, fun j o' ho' hne => ?_⟩
    have hj := (Array.getElem?_eq_some_iff.1 ho').1
    have h2 := this.2.2 j (by simpa using hj)
    rw [ho'] at h2
    simpa [hne] using h2
 refine ⟨fun i o ho => (key i o ho).1, fun i o ho => ?_, fun i j o o' ho ho' he => ?_⟩
 ·obtain ⟨d, h1, h2, _⟩ := (key i o ho).2; exact ⟨d, h1, h2⟩
 ·obtain ⟨d, h1, h2, h3⟩ := (key i o ho).2
  rcases Nat.decEq j i with hne | hne
  ·exact ((h3 j o' ho' hne) (he ▸ h1)).elim
  ·exact hne.symm

def StepAt (P : Program) (n : Nat) (ops : Array Oper) (o : Oper) (f : Fr) (s : St) (Φ : Value → St → Prop) : Prop :=
 ∀ (Q : Post), (∀ v s', Ext s s' → Φ v s' → Q .normal (updO f o.dst v) s'.w) → L P n ops Q [o] f s.w

theorem wpOp_of_L {o : Oper} {i : Nat} {a : Act} {K : Act → World → Prop} (hi : ops[i]? = some o) (ha : Fits n f a)
  (h : ∀ Q' : Post, (∀ f' w', (∀ a', Fits n f' a' → K a' w') → Q' .normal f' w') → L P n ops Q' [o] f w) : wpOp P ops (lift n Q) i K a w := by
 let Q' : Post := fun e f' w' => match e with | .normal => ∀ a', Fits n f' a' → K a' w' | e => Q e f' w'
 have hl := h Q' (fun f' w' hk => hk) a ha
 unfold wpList at hl
 unfold wpOp
 rw [hi]
 have hout : LetsOut (lift n Q') → LetsOut (lift n Q) := fun ⟨a, w, f, hf, q⟩ => ⟨a, w, f, hf, q⟩
 have conv : ∀ {a : Act} {w : World}, o.wp P a w (wpList P ops (lift n Q') []) (lift n Q') → o.wp P a w K (lift n Q) := by
  intro a w hh
  have hk : ∀ a w, wpList P ops (lift n Q') [] a w → K a w := fun a w ⟨f', hf', q⟩ => q a hf'
  unfold Oper.wp at hh ⊢
  generalize (execOp a.eval o).run P w = r at *
  cases r with
  | ok x w' =>
   cases x <;> simp only [Oper.upon] at hh ⊢ <;>
    first
     | exact hk _ _ hh
     | exact Calls.mono hh (fun e w'' he => by cases e <;> first | exact hk _ _ he | exact he | exact hout he)
     | exact Rows.mono hh (fun _ _ he => hk _ _ he)
  | halt x w' => cases x <;> simp only [Oper.upon] at hh ⊢ <;> exact hh
 simp only
 split
 ·rename_i hw
  rw [if_pos hw] at hl
  exact hl.imp conv (fun ⟨h1, h2⟩ => ⟨h1, hout h2⟩)
 ·rename_i hw
  rw [if_neg hw] at hl
  obtain ⟨f', hf', q⟩ := hl
  exact q _ hf'

theorem countFalse_set {l : Array Bool} {i : Nat} (h : l.getD i true = false) : ((l.setIfInBounds i true).toList.countP (fun b => !b)) + 1 = l.toList.countP (fun b => !b) := by
 have hi : i < l.size := by
  rcases Nat.lt_or_ge i l.size with h' | h'
  ·exact h'
  ·rw [Array.getD_eq_getD_getElem?, Array.getElem?_eq_none h'] at h; simp at h
 have he : l.toList[i]'(by simpa using hi) = false := by
  rw [Array.getD_eq_getD_getElem?, Array.getElem?_eq_getElem hi] at h
  simpa using h
 rw [Array.toList_setIfInBounds]
 exact aux _ i _ he
where
 aux : ∀ (m : List Bool) (i : Nat) (h : i < m.length), m[i] = false → (m.set i true).countP (fun b => !b) + 1 = m.countP (fun b => !b)
  | [], i, h, _ => by simp at h
  | b :: m, 0, _, he => by simp at he; subst he; simp
  | b :: m, i + 1, h, he => by
   simp only [List.set_cons_succ, List.countP_cons]
   have := aux m i (by simpa using h) (by simpa using he)
   omega

theorem W_draw {id : Nat} {s : St} (hm : P.follows .mixedOrders = true) (hok : drawOk n ops = true) (Φ : Nat → Value → St → Prop)
  (hmono : ∀ i v s s', Φ i v s → Ext s s' → Φ i v s')
  (step : ∀ (i : Nat) (o : Oper), ops[i]? = some o → ∀ f' s', Ext s s' → (∀ (j : Nat) (o' : Oper) (d : Nat), aheadOf o j = true → ops[j]? = some o' → o'.dst = some d → Φ j (f' d) s') →
   (∀ t, slotFree ops i t = true → f' t = f t) → StepAt P n ops o f' s' (Φ i))
  (fin : ∀ f' s', Ext s s' → (∀ (j : Nat) (o' : Oper) (d : Nat), ops[j]? = some o' → o'.dst = some d → Φ j (f' d) s') →
   (∀ t, (∀ (j : Nat) (o' : Oper), ops[j]? = some o' → o'.dst ≠ some t) → f' t = f t) → Q .normal f' s'.w) :
  W P n (.region id ops true) Q f s.w := by
 have sp := drawOk_spec hok
 intro a ha
 refine wp_region_any hm ?_
 -- the invariant
 have main : ∀ (fuel : Nat) (listed : Array Bool) (a : Act) (f' : Fr) (s' : St), listed.size = ops.size → listed.toList.countP (fun b => !b) = fuel → Fits n f' a → Ext s s' →
   (∀ (j : Nat) (o' : Oper) (d : Nat), listed.getD j false = true → ops[j]? = some o' → o'.dst = some d → Φ j (f' d) s') →
   (∀ (j : Nat) (o' : Oper), listed.getD j false = true → ops[j]? = some o' → ∀ e, e ∈ o'.after.toList → Region.binds .any e = true → listed.getD e.on false = true) →
   (∀ t, (∀ (j : Nat) (o' : Oper), listed.getD j false = true → ops[j]? = some o' → o'.dst ≠ some t) → f' t = f t) →
   wpAny P .any ops (lift n Q) fuel listed a s'.w := by
  intro fuel
  induction fuel with
  | zero =>
   intro listed a f' s' hsz hcnt hfit hE hΦ hcl hfr
   have hall : ∀ j, j < ops.size → listed.getD j false = true := by
    intro j hj
    have hj' : j < listed.size := by omega
    have := List.countP_eq_zero.1 hcnt (listed[j]) (by simp)
    rw [Array.getD_eq_getD_getElem?, Array.getElem?_eq_getElem hj']
    simpa using this
   refine ⟨?_, f', hfit, fin f' s' hE (fun j o' d hj => hΦ j o' d (hall j (Array.getElem?_eq_some_iff.1 hj).1) hj) (fun t ht => hfr t (fun j o' _ => ht j o'))⟩
   cases hr : Region.ready .any ops listed with
   | nil => rfl
   | cons i r =>
    have hi : i ∈ Region.ready .any ops listed := by rw [hr]; simp
    obtain ⟨h1, o, ho, _⟩ := mem_ready.1 hi
    have := hall i (Array.getElem?_eq_some_iff.1 ho).1
    have hi' : i < listed.size := by rw [hsz]; exact (Array.getElem?_eq_some_iff.1 ho).1
    rw [Array.getD_eq_getD_getElem?, Array.getElem?_eq_getElem hi'] at h1 this
    simp at h1 this
    rw [h1] at this; cases this
  | succ fuel ih =>
   intro listed a f' s' hsz hcnt hfit hE hΦ hcl hfr
   refine ⟨fun hr => ?_, fun i hi => ?_⟩
   ·-- the least that is not listed would be ready
    exfalso
    have hex : ∃ j, j < listed.size ∧ listed.getD j true = false := by
     have hpos : 0 < listed.toList.countP (fun b => !b) := by omega
     obtain ⟨x, hx, hb⟩ := List.countP_pos_iff.1 hpos
     obtain ⟨j, hj, e⟩ := List.getElem_of_mem hx
     refine ⟨j, by simpa using hj, ?_⟩
     rw [Array.getD_eq_getD_getElem?, Array.getElem?_eq_getElem (by simpa using hj)]
     simp at hb e ⊢
     rw [e, hb]
    obtain ⟨j, ⟨hj, hf⟩, hmin⟩ := least_of hex
    have hjo : j < ops.size := by omega
    have : j ∈ Region.ready .any ops listed := mem_ready.2 ⟨hf, ops[j], Array.getElem?_eq_getElem hjo, fun e he hb => by
     have hlt := sp.edge j _ (Array.getElem?_eq_getElem hjo) e (by simpa using he) hb
     have hl' : e.on < listed.size := by omega
     cases hv : listed.getD e.on false with
     | true => rfl
     | false =>
      have : listed.getD e.on true = false := by
       rw [Array.getD_eq_getD_getElem?, Array.getElem?_eq_getElem hl'] at hv ⊢
       simpa using hv
      have := hmin e.on ⟨hl', this⟩
      omega⟩
    rw [hr] at this; simp at this
   ·obtain ⟨hun, o, ho, haft⟩ := mem_ready.1 hi
    obtain ⟨d, hd, hdn⟩ := sp.dst i o ho
    have hil : i < listed.size := by rw [hsz]; exact (Array.getElem?_eq_some_iff.1 ho).1
    have hun' : listed.getD i false = false := by
     rw [Array.getD_eq_getD_getElem?, Array.getElem?_eq_getElem hil] at hun ⊢
     simpa using hun
    refine wpOp_of_L (f := f') ho hfit (fun Q' hQ' => ?_)
    refine step i o ho f' s' hE ?_ ?_ Q' ?_
    ·intro j o' d' hj ho' hd'
     unfold aheadOf at hj
     rw [Array.any_eq_true'] at hj
     obtain ⟨e, he, hb⟩ := hj
     simp only [Bool.and_eq_true, beq_iff_eq] at hb
     exact hΦ j o' d' (hb.2 ▸ haft e he hb.1) ho' hd'
    ·intro t ht
     refine hfr t (fun j o' hj ho' hdt => ?_)
     unfold slotFree at ht
     rw [List.all_eq_true] at ht
     have := ht o' (by obtain ⟨h1, h2⟩ := Array.getElem?_eq_some_iff.1 ho'; rw [← h2]; simp)
     rw [hdt] at this
     simp only [bne_self_eq_false, Bool.false_or] at this
     unfold aheadOf at this
     rw [Array.any_eq_true'] at this
     obtain ⟨e, he, hb⟩ := this
     simp only [Bool.and_eq_true, beq_iff_eq] at hb
     have h2 := hcl j o' hj ho' e (by simpa using he) hb.1
     rw [hb.2, hun'] at h2; cases h2
    ·intro v s'' hE' hv
     refine hQ' _ _ (fun a' ha' => ?_)
     rw [hd] at ha'
     have hgd : ∀ j, (listed.setIfInBounds i true).getD j false = true → j = i ∨ listed.getD j false = true := by
      intro j hj
      by_cases e : i = j
      ·exact .inl e.symm
      ·right
       rw [getD_set_ne false e] at hj; exact hj
     refine ih _ a' _ s'' (by simpa using hsz) ?_ ha' (hE.trans hE') ?_ ?_ ?_
     ·have := countFalse_set hun; omega
     ·intro j o' d' hj ho' hd'
      rcases hgd j hj with rfl | hl
      ·rw [ho] at ho'; cases ho'
       rw [hd] at hd'; cases hd'
       simpa [updO, upd] using hv
      ·have hne : d' ≠ d := by
        intro e
        have := sp.uniq j i o' o ho' ho (by rw [hd', hd, e])
        subst this; rw [hun'] at hl; cases hl
       have : updO f' (some d) v d' = f' d' := by simp [updO, upd, hne]
       rw [this]
       exact hmono _ _ _ _ (hΦ j o' d' hl ho' hd') hE'
     ·intro j o' hj ho' e he hb
      rcases hgd j hj with rfl | hj
      ·rw [ho] at ho'; cases ho'
       exact getD_set_true (haft e (by simpa using he) hb)
      ·exact getD_set_true (hcl j o' hj ho' e he hb)
     ·intro t ht
      have hne : t ≠ d := by
       intro e
       refine ht i o ?_ ho (by rw [hd, e])
       rw [Array.getD_eq_getD_getElem?, Array.getElem?_setIfInBounds]
       simp [hil]
      have : updO f' (some d) v t = f' t := by simp [updO, upd, hne]
      rw [this]
      exact hfr t (fun j o' hj => ht j o' (getD_set_true hj))
 have hnone : ∀ j, (Array.replicate ops.size false).getD j false = true → False := by
  intro j hj
  rw [Array.getD_eq_getD_getElem?, Array.getElem?_replicate] at hj
  split at hj <;> simp at hj
 have h0 := main ops.size (Array.replicate ops.size false) a f s.drew (by simp) (by simp [List.countP_replicate]) ha (Ext.drew s) (fun j o' d hj => (hnone j hj).elim) (fun j o' hj => (hnone j hj).elim) (fun _ _ => rfl)
 exact h0
end
end Go.Arm
