/- A region that draws its order, where blocks of the call's own are written. -/
import Derived.Test.YtmojccilbgjngaaCoreB
namespace Go.Arm
open Go Go.RowKit

structure PX where
 p : Value → St → Prop
 own : Value → Nat → Prop
 m : ∀ {M : Nat → Prop} {v : Value} {s s' : St}, p v s → Tch M s s' → (∀ b, own v b → ¬ M b) → p v s'
 lt : ∀ {v : Value} {s : St} {b : Nat}, p v s → own v b → b < s.w.heap.size

def PX.eq (x : Value) : PX := ⟨fun v _ => v = x, fun _ _ => False, fun h _ _ => h, fun _ h => h.elim⟩
def PX.any : PX := ⟨fun _ _ => True, fun _ _ => False, fun h _ _ => h, fun _ h => h.elim⟩
def PX.data {α : Type} [Rep α] (x : α) : PX := ⟨fun v s => V s v x, fun _ _ => False, fun h t _ => h.mono t.le, fun _ h => h.elim⟩
def PX.ptr {α : Type} [Rep α] (x : α) : PX := ⟨fun v s => Ptr s v x, fun _ _ => False, fun h t _ => h.mono t.le, fun _ h => h.elim⟩
def ownP (v : Value) (b : Nat) : Prop := v = .pointer (some ⟨b, 0, none⟩)
def PX.var {α : Type} [Rep α] (B : Nat) (E : TypeId) (x : α) : PX :=
 ⟨fun v s => ∃ b, v = .pointer (some ⟨b, 0, none⟩) ∧ B ≤ b ∧ Var s b E x, ownP,
 fun ⟨b, e, hb, h⟩ t hn => ⟨b, e, hb, h.tch t (hn b e)⟩, fun ⟨b, e, _, h⟩ hb => by rw [e] at hb; cases hb; exact h.lt⟩
def PX.bld {α : Type} [Rep α] (B : Nat) (E : TypeId) (xs : List α) : PX :=
 ⟨fun v s => Bld s B E v xs, Arm.own, fun h t hn => h.tch t hn, fun h hb => (h.lt hb).2⟩

section
variable {P : Program} {n : Nat} {Q : Post} {f : Fr} {ops : Array Oper}

structure Plan where
 pxs : List PX
 slots : List Nat
 cons : List (List Nat)

def Plan.px (pl : Plan) (j : Nat) : PX := pl.pxs.getD j PX.any
def Plan.slot (pl : Plan) (j : Nat) : Nat := pl.slots.getD j 0
def Plan.con (pl : Plan) (i : Nat) : List Nat := pl.cons.getD i []

def Plan.ent (pl : Plan) (ops : Array Oper) (f : Fr) : Nat → Prop := fun b => ∃ j, ops.size ≤ j ∧ j < pl.slots.length ∧ (pl.px j).own (f (pl.slot j)) b

def avail (ops : Array Oper) (cons : List (List Nat)) (i j : Nat) : Bool :=
 (decide (ops.size ≤ j) || (match ops[i]? with | some o => aheadOf o j | none => false)) &&
 (List.range ops.size).all fun k => !(cons.getD k []).contains j || decide (k = i) || (match ops[k]? with | some o => aheadOf o i | none => false)

def planOk (n : Nat) (ops : Array Oper) (slots : List Nat) (cons : List (List Nat)) : Bool :=
 (List.range ops.size).all fun i => match ops[i]? with
  | none => true
  | some o => o.after.toList.all (fun e => !Region.binds .any e || decide (e.on < i)) &&
   (match o.dst with
   | none => true
   | some d => decide (d < n) && decide (slots.getD i 0 = d) &&
     (List.range slots.length).all fun j => decide (j = i) || decide (slots.getD j 0 ≠ d) || (match ops[j]? with | some o' => o'.dst.isNone && aheadOf o' i | none => false)) &&
   (cons.getD i []).all (fun j => avail ops cons i j && decide (j < slots.length)) && decide (i < slots.length)

structure PlanSpec (n : Nat) (ops : Array Oper) (slots : List Nat) (cons : List (List Nat)) : Prop where
 edge : ∀ (i : Nat) (o : Oper), ops[i]? = some o → ∀ e, e ∈ o.after.toList → Region.binds .any e = true → e.on < i
 dst : ∀ (i : Nat) (o : Oper) (d : Nat), ops[i]? = some o → o.dst = some d → d < n ∧ slots.getD i 0 = d
 uniq : ∀ (i : Nat) (o : Oper) (d : Nat) (j : Nat), ops[i]? = some o → o.dst = some d → j < slots.length → j ≠ i → slots.getD j 0 = d → ∃ o', ops[j]? = some o' ∧ o'.dst = none ∧ aheadOf o' i = true
 con : ∀ (i : Nat) (o : Oper), ops[i]? = some o → ∀ j, j ∈ cons.getD i [] → avail ops cons i j = true ∧ j < slots.length
 len : ∀ (i : Nat) (o : Oper), ops[i]? = some o → i < slots.length

theorem planOk_spec {slots : List Nat} {cons : List (List Nat)} (h : planOk n ops slots cons = true) : PlanSpec n ops slots cons := by
 unfold planOk at h
 rw [List.all_eq_true] at h
 have key : ∀ (i : Nat) (o : Oper), ops[i]? = some o → _ := fun i o ho => by
  have := h i (by simpa using (Array.getElem?_eq_some_iff.1 ho).1)
  rw [ho] at this
  exact this
 simp only [Bool.and_eq_true, List.all_eq_true, decide_eq_true_eq] at key
 refine ⟨fun i o ho e he hb => ?_, fun i o d ho hd => ?_, fun i o d j ho hd hj hne hs => ?_, fun i o ho j hj => (key i o ho).1.2 j hj, fun i o ho => (key i o ho).2⟩
 ·have := (key i o ho).1.1.1 e he
  simpa [hb] using this
 ·have := (key i o ho).1.1.2
  rw [hd] at this
  simp only [Bool.and_eq_true, decide_eq_true_eq] at this
  exact this.1
 ·have := (key i o ho).1.1.2
  rw [hd] at this
  simp only [Bool.and_eq_true, decide_eq_true_eq, List.all_eq_true] at this
  have h2 := this.2 j (by simpa using hj)
  simp only [hne, decide_false, Bool.false_or, hs, ne_eq, not_true] at h2
  cases ho' : ops[j]? with
  | none => rw [ho'] at h2; simp at h2
  | some o' =>
   rw [ho'] at h2
   simp only [Bool.and_eq_true, Option.isNone_iff_eq_none] at h2
   exact ⟨o', rfl, h2.1, h2.2⟩

def StepX (P : Program) (n : Nat) (ops : Array Oper) (pl : Plan) (i : Nat) (o : Oper) (f : Fr) (s : St) : Prop :=
 ∀ (Q : Post), (∀ v s' M, Tch M s s' → (∀ b, M b → ∃ j, j ∈ pl.con i ∧ (pl.px j).own (f (pl.slot j)) b) →
   (pl.px i).p (match o.dst with | some _ => v | none => f (pl.slot i)) s' →
   (∀ b, (pl.px i).own (match o.dst with | some _ => v | none => f (pl.slot i)) b → (∃ j, j ∈ pl.con i ∧ (pl.px j).own (f (pl.slot j)) b) ∨ s.w.heap.size ≤ b) →
   Q .normal (updO f o.dst v) s'.w) → L P n ops Q [o] f s.w

def StepsX (P : Program) (n : Nat) (ops : Array Oper) (pl : Plan) (f : Fr) (s : St) : List Oper → Nat → Prop
 | [], _ => True
 | o :: r, i => (∀ f' s', Tch (pl.ent ops f) s s' →
   (∀ j, avail ops pl.cons i j = true → j < pl.slots.length → (pl.px j).p (f' (pl.slot j)) s') → (∀ t, slotFree ops i t = true → f' t = f t) → StepX P n ops pl i o f' s') ∧ StepsX P n ops pl f s r (i + 1)

theorem StepsX_nil {pl : Plan} {s : St} {i : Nat} : StepsX P n ops pl f s [] i := trivial
theorem StepsX_cons {pl : Plan} {s : St} {i : Nat} {o : Oper} {r : List Oper}
  (h : ∀ f' s', Tch (pl.ent ops f) s s' →
   (∀ j, avail ops pl.cons i j = true → j < pl.slots.length → (pl.px j).p (f' (pl.slot j)) s') → (∀ t, slotFree ops i t = true → f' t = f t) → StepX P n ops pl i o f' s')
  (k : StepsX P n ops pl f s r (i + 1)) : StepsX P n ops pl f s (o :: r) i := ⟨h, k⟩


theorem StepsX.get {pl : Plan} {s : St} : ∀ {l : List Oper} {k : Nat}, StepsX P n ops pl f s l k → ∀ (i : Nat) (o : Oper), l[i]? = some o → ∀ f' s', Tch (pl.ent ops f) s s' →
   (∀ j, avail ops pl.cons (k + i) j = true → j < pl.slots.length → (pl.px j).p (f' (pl.slot j)) s') → (∀ t, slotFree ops (k + i) t = true → f' t = f t) → StepX P n ops pl (k + i) o f' s'
 | [], _, _, i, o, h => by simp at h
 | a :: l, k, ⟨h1, h2⟩, 0, o, h => by simp at h; subst h; exact h1
 | a :: l, k, ⟨h1, h2⟩, i + 1, o, h => by
  have := StepsX.get h2 i o (by simpa using h)
  rw [show k + 1 + i = k + (i + 1) by omega] at this
  exact this

def alive (ops : Array Oper) (pl : Plan) (listed : Array Bool) (j : Nat) : Prop :=
 j < pl.slots.length ∧ (ops.size ≤ j ∨ listed.getD j false = true) ∧ ∀ i, listed.getD i false = true → j ∉ pl.con i

theorem W_drawX {id : Nat} {s : St} {l : List Oper} (hm : P.follows .mixedOrders = true) (pl : Plan) (hok : planOk n l.toArray pl.slots pl.cons = true)
  (h0 : ∀ j, l.toArray.size ≤ j → j < pl.slots.length → (pl.px j).p (f (pl.slot j)) s)
  (hd0 : ∀ j k, l.toArray.size ≤ j → j < pl.slots.length → l.toArray.size ≤ k → k < pl.slots.length → j ≠ k → ∀ b, (pl.px j).own (f (pl.slot j)) b → ¬ (pl.px k).own (f (pl.slot k)) b)
  (steps : StepsX P n l.toArray pl f s l 0)
  (fin : ∀ f' s', Tch (pl.ent l.toArray f) s s' → (∀ j, j < pl.slots.length → (∀ i, i < l.toArray.size → j ∉ pl.con i) → (pl.px j).p (f' (pl.slot j)) s') →
   (∀ j k, j < pl.slots.length → k < pl.slots.length → (∀ i, i < l.toArray.size → j ∉ pl.con i) → (∀ i, i < l.toArray.size → k ∉ pl.con i) → j ≠ k → ∀ b, (pl.px j).own (f' (pl.slot j)) b → ¬ (pl.px k).own (f' (pl.slot k)) b) →
   (∀ j b, j < pl.slots.length → (∀ i, i < l.toArray.size → j ∉ pl.con i) → (pl.px j).own (f' (pl.slot j)) b → pl.ent l.toArray f b ∨ s.w.heap.size ≤ b) →
   (∀ t, unwritten l.toArray t = true → f' t = f t) → Q .normal f' s'.w) :
  W P n (.region id l.toArray true) Q f s.w := by
 have sp := planOk_spec hok
 generalize hops : l.toArray = ops at *
 intro a ha
 refine wp_region_any hm ?_
 have main : ∀ (fuel : Nat) (listed : Array Bool) (a : Act) (f' : Fr) (s' : St), listed.size = ops.size → listed.toList.countP (fun b => !b) = fuel → Fits n f' a → Tch (pl.ent ops f) s s' →
   (∀ j, alive ops pl listed j → (pl.px j).p (f' (pl.slot j)) s') →
   (∀ j k, alive ops pl listed j → alive ops pl listed k → j ≠ k → ∀ b, (pl.px j).own (f' (pl.slot j)) b → ¬ (pl.px k).own (f' (pl.slot k)) b) →
   (∀ j b, alive ops pl listed j → (pl.px j).own (f' (pl.slot j)) b → pl.ent ops f b ∨ s.w.heap.size ≤ b) →
   (∀ (j : Nat) (o' : Oper), listed.getD j false = true → ops[j]? = some o' → ∀ e, e ∈ o'.after.toList → Region.binds .any e = true → listed.getD e.on false = true) →
   (∀ t, (∀ (j : Nat) (o' : Oper), listed.getD j false = true → ops[j]? = some o' → o'.dst ≠ some t) → f' t = f t) →
   wpAny P .any ops (lift n Q) fuel listed a s'.w := by
  intro fuel
  induction fuel with
  | zero =>
   intro listed a f' s' hsz hcnt hfit hE hΦ hdj hown hcl hfr
   have hall : ∀ j, j < ops.size → listed.getD j false = true := by
    intro j hj
    have hj' : j < listed.size := by omega
    have := List.countP_eq_zero.1 hcnt (listed[j]) (by simp)
    rw [Array.getD_eq_getD_getElem?, Array.getElem?_eq_getElem hj']
    simpa using this
   have hal : ∀ j, j < pl.slots.length → (∀ i, i < ops.size → j ∉ pl.con i) → alive ops pl listed j := by
    intro j hj hc
    refine ⟨hj, ?_, fun i hi => hc i ?_⟩
    ·rcases Nat.lt_or_ge j ops.size with h | h
     ·exact .inr (hall j h)
     ·exact .inl h
    ·rcases Nat.lt_or_ge i listed.size with h | h
     ·omega
     ·rw [Array.getD_eq_getD_getElem?, Array.getElem?_eq_none h] at hi; simp at hi
   refine ⟨?_, f', hfit, fin f' s' hE (fun j hj hc => hΦ j (hal j hj hc)) (fun j k hj hk hcj hck hne => hdj j k (hal j hj hcj) (hal k hk hck) hne) (fun j b hj hc hb => hown j b (hal j hj hc) hb) (fun t ht => hfr t (fun j o' _ ho' hd => ?_))⟩
   ·cases hr : Region.ready .any ops listed with
    | nil => rfl
    | cons i r =>
     have hi : i ∈ Region.ready .any ops listed := by rw [hr]; simp
     obtain ⟨h1, o, ho, _⟩ := mem_ready.1 hi
     have := hall i (Array.getElem?_eq_some_iff.1 ho).1
     have hi' : i < listed.size := by rw [hsz]; exact (Array.getElem?_eq_some_iff.1 ho).1
     rw [Array.getD_eq_getD_getElem?, Array.getElem?_eq_getElem hi'] at h1 this
     simp at h1 this
     rw [h1] at this; cases this
   ·unfold unwritten at ht
    rw [List.all_eq_true] at ht
    have := ht o' (by obtain ⟨h1, h2⟩ := Array.getElem?_eq_some_iff.1 ho'; rw [← h2]; simp)
    rw [hd] at this; simp at this
  | succ fuel ih =>
   intro listed a f' s' hsz hcnt hfit hE hΦ hdj hown hcl hfr
   refine ⟨fun hr => ?_, fun i hi => ?_⟩
   ·exfalso
    have hex : ∃ j, j < listed.size ∧ listed.getD j true = false := by
     have hpos : 0 < listed.toList.countP (fun b => !b) := by omega
     obtain ⟨x, hx, hb⟩ := List.countP_pos_iff.1 hpos
     obtain ⟨j, hj, e⟩ := List.getElem_of_mem hx
     refine ⟨j, by simpa using hj, ?_⟩
     rw [Array.getD_eq_getD_getElem?, Array.getElem?_eq_getElem (by simpa using hj)]
     simp at hb e ⊢
     rw [e, hb]
    obtain ⟨j, ⟨hj, hf⟩, hmin⟩ := least_of hex
    have hjo : j < ops.size := by omega
    have : j ∈ Region.ready .any ops listed := mem_ready.2 ⟨hf, ops[j], Array.getElem?_eq_getElem hjo, fun e he hb => by
     have hlt := sp.edge j _ (Array.getElem?_eq_getElem hjo) e (by simpa using he) hb
     have hl' : e.on < listed.size := by omega
     cases hv : listed.getD e.on false with
     | true => rfl
     | false =>
      have : listed.getD e.on true = false := by
       rw [Array.getD_eq_getD_getElem?, Array.getElem?_eq_getElem hl'] at hv ⊢
       simpa using hv
      have := hmin e.on ⟨hl', this⟩
      omega⟩
    rw [hr] at this; simp at this
   ·obtain ⟨hun, o, ho, haft⟩ := mem_ready.1 hi
    have hil : i < listed.size := by rw [hsz]; exact (Array.getElem?_eq_some_iff.1 ho).1
    have hio : i < ops.size := by omega
    have hun' : listed.getD i false = false := by
     rw [Array.getD_eq_getD_getElem?, Array.getElem?_eq_getElem hil] at hun ⊢
     simpa using hun
    -- an operation that waits for i is not listed
    have hwait : ∀ (k : Nat) (o' : Oper), ops[k]? = some o' → aheadOf o' i = true → listed.getD k false = false := by
     intro k o' ho' hah
     cases hk : listed.getD k false with
     | false => rfl
     | true =>
      unfold aheadOf at hah
      rw [Array.any_eq_true'] at hah
      obtain ⟨e, he, hb⟩ := hah
      simp only [Bool.and_eq_true, beq_iff_eq] at hb
      have := hcl k o' hk ho' e (by simpa using he) hb.1
      rw [hb.2, hun'] at this; cases this
    have hav : ∀ j, avail ops pl.cons i j = true → j < pl.slots.length → alive ops pl listed j := by
     intro j hj hjl
     unfold avail at hj
     simp only [Bool.and_eq_true, Bool.or_eq_true, decide_eq_true_eq, List.all_eq_true, ho] at hj
     obtain ⟨h1, h2⟩ := hj
     refine ⟨hjl, ?_, fun k hk hmem => ?_⟩
     ·rcases h1 with h1 | h1
      ·exact .inl h1
      ·right
       unfold aheadOf at h1
       rw [Array.any_eq_true'] at h1
       obtain ⟨e, he, hb⟩ := h1
       simp only [Bool.and_eq_true, beq_iff_eq] at hb
       exact hb.2 ▸ haft e he hb.1
     ·have hkl : k < ops.size := by
       rcases Nat.lt_or_ge k listed.size with h | h
       ·omega
       ·rw [Array.getD_eq_getD_getElem?, Array.getElem?_eq_none h] at hk; simp at hk
      have := h2 k (by simpa using hkl)
      rcases this with (h3 | h3) | h3
      ·have hmem' : (pl.cons.getD k []).contains j = true := by
        rw [List.contains_iff_mem]; exact hmem
       rw [hmem'] at h3; simp at h3
      ·subst h3; rw [hun'] at hk; cases hk
      ·cases hok' : ops[k]? with
       | none => rw [hok'] at h3; simp at h3
       | some o' =>
        rw [hok'] at h3
        rw [hwait k o' hok' h3] at hk; cases hk
    refine wpOp_of_L (f := f') ho hfit (fun Q' hQ' => ?_)
    have hst := StepsX.get steps i o (by rw [← hops] at ho; simpa using ho) f' s' hE (by
     intro j hj hjl
     rw [Nat.zero_add] at hj
     exact hΦ j (hav j hj hjl)) (by
     intro t ht
     rw [Nat.zero_add] at ht
     refine hfr t (fun j o' hj ho' hdt => ?_)
     unfold slotFree at ht
     rw [List.all_eq_true] at ht
     have := ht o' (by obtain ⟨h1, h2⟩ := Array.getElem?_eq_some_iff.1 ho'; rw [← h2]; simp)
     rw [hdt] at this
     simp only [bne_self_eq_false, Bool.false_or] at this
     rw [hwait j o' ho' this] at hj; cases hj)
    rw [Nat.zero_add] at hst
    refine hst Q' ?_
    intro v s'' M hT hM hv hvo
    refine hQ' _ _ (fun a' ha' => ?_)
    have hgd : ∀ j, (listed.setIfInBounds i true).getD j false = true → j = i ∨ listed.getD j false = true := by
     intro j hj
     by_cases e : i = j
     ·exact .inl e.symm
     ·right; rw [getD_set_ne false e] at hj; exact hj
    have hset : ∀ j, listed.getD j false = true → (listed.setIfInBounds i true).getD j false = true := fun j hj => getD_set_true hj
    have hseti : (listed.setIfInBounds i true).getD i false = true := by
     rw [Array.getD_eq_getD_getElem?, Array.getElem?_setIfInBounds]; simp [hil]
    -- who is alive behind it
    have hlive : ∀ j, alive ops pl (listed.setIfInBounds i true) j → j ≠ i → alive ops pl listed j ∧ j ∉ pl.con i := by
     intro j ⟨h1, h2, h3⟩ hne
     refine ⟨⟨h1, h2.imp (fun h => h) (fun h => (hgd j h).resolve_left hne), fun k hk => h3 k (hset k hk)⟩, h3 i hseti⟩
    -- slots of what is alive are not written
    have hslot : ∀ j, alive ops pl listed j → j ≠ i → updO f' o.dst v (pl.slot j) = f' (pl.slot j) := by
     intro j hj hne
     cases hd : o.dst with
     | none => rfl
     | some d =>
      simp only [updO, upd]
      rw [if_neg]
      intro e
      obtain ⟨o', ho', _, hah⟩ := sp.uniq i o d j ho hd hj.1 hne e
      have h1 := hwait j o' ho' hah
      rcases hj.2.1 with h2 | h2
      ·have := (Array.getElem?_eq_some_iff.1 ho').1; omega
      ·rw [h1] at h2; cases h2
    have hval : updO f' o.dst v (pl.slot i) = (match o.dst with | some _ => v | none => f' (pl.slot i)) := by
     cases hd : o.dst with
     | none => rfl
     | some d =>
      have := (sp.dst i o d ho hd).2
      show updO f' (some d) v (pl.slots.getD i 0) = v
      rw [this]; simp [updO, upd]
    have hconAlive : ∀ j, j ∈ pl.con i → j < pl.slots.length → alive ops pl listed j := fun j hj hl => hav j (sp.con i o ho j hj).1 hl
    have hcl2 : ∀ j, j ∈ pl.con i → ¬ j < pl.slots.length → False := fun j hj hl => hl (sp.con i o ho j hj).2
    have hMent : ∀ b, M b → pl.ent ops f b ∨ s.w.heap.size ≤ b := by
     intro b hb
     obtain ⟨j, hj, ho2⟩ := hM b hb
     by_cases hl : j < pl.slots.length
     ·exact hown j b (hconAlive j hj hl) ho2
     ·exact (hcl2 j hj hl).elim
    refine ih _ a' _ s'' (by simpa using hsz) ?_ ha' (hE.trans hT hMent) ?_ ?_ ?_ ?_ ?_
    ·have := countFalse_set hun; omega
    ·intro j hj
     by_cases hne : j = i
     ·subst hne; rw [hval]; exact hv
     ·obtain ⟨h1, h2⟩ := hlive j hj hne
      rw [hslot j h1 hne]
      refine (pl.px j).m (hΦ j h1) hT (fun b hb hMb => ?_)
      obtain ⟨k, hk, ho2⟩ := hM b hMb
      have hkj : j ≠ k := fun e => h2 (e ▸ hk)
      by_cases hl : k < pl.slots.length
      ·exact hdj j k h1 (hconAlive k hk hl) hkj b hb ho2
      ·exact (hcl2 k hk hl).elim
    ·intro j k hj hk hne b hb
     by_cases hji : j = i
     ·subst hji
      obtain ⟨h1, h2⟩ := hlive k hk (fun e => hne e.symm)
      rw [hval] at hb
      rw [hslot k h1 (fun e => hne e.symm)]
      rcases hvo b hb with ⟨q, hq, ho2⟩ | hge
      ·by_cases hl : q < pl.slots.length
       ·exact hdj q k (hconAlive q hq hl) h1 (fun e => h2 (e ▸ hq)) b ho2
       ·exact (hcl2 q hq hl).elim
      ·intro hkb
       have := (pl.px k).lt (hΦ k h1) hkb
       omega
     ·obtain ⟨h1, h2⟩ := hlive j hj hji
      rw [hslot j h1 hji] at hb
      by_cases hki : k = i
      ·subst hki
       rw [hval]
       intro hkb
       rcases hvo b hkb with ⟨q, hq, ho2⟩ | hge
       ·by_cases hl : q < pl.slots.length
        ·exact hdj q j (hconAlive q hq hl) h1 (fun e => h2 (e ▸ hq)) b ho2 hb
        ·exact (hcl2 q hq hl).elim
       ·have := (pl.px j).lt (hΦ j h1) hb
        omega
      ·obtain ⟨h3, h4⟩ := hlive k hk hki
       rw [hslot k h3 hki]
       exact hdj j k h1 h3 hne b hb
    ·intro j b hj hb
     by_cases hji : j = i
     ·subst hji
      rw [hval] at hb
      rcases hvo b hb with ⟨q, hq, ho2⟩ | hge
      ·by_cases hl : q < pl.slots.length
       ·exact hown q b (hconAlive q hq hl) ho2
       ·exact (hcl2 q hq hl).elim
      ·right; have := hE.size; omega
     ·obtain ⟨h1, h2⟩ := hlive j hj hji
      rw [hslot j h1 hji] at hb
      exact hown j b h1 hb
    ·intro j o' hj ho' e he hb
     rcases hgd j hj with rfl | hj
     ·rw [ho] at ho'; cases ho'
      exact hset _ (haft e (by simpa using he) hb)
     ·exact hset _ (hcl j o' hj ho' e he hb)
    ·intro t ht
     cases hd : o.dst with
     | none => exact hfr t (fun j o' hj => ht j o' (hset j hj))
     | some d =>
      have hne : t ≠ d := fun e => ht i o hseti ho (by rw [hd, e])
      show updO f' (some d) v t = f t
      simp only [updO, upd, if_neg hne]
      exact hfr t (fun j o' hj => ht j o' (hset j hj))
 have hnone : ∀ j, (Array.replicate ops.size false).getD j false = true → False := by
  intro j hj
  rw [Array.getD_eq_getD_getElem?, Array.getElem?_replicate] at hj
  split at hj <;> simp at hj
 have hal0 : ∀ j, alive ops pl (Array.replicate ops.size false) j → j < pl.slots.length ∧ ops.size ≤ j := fun j ⟨h1, h2, _⟩ => ⟨h1, h2.resolve_right (fun h => hnone j h)⟩
 exact main ops.size (Array.replicate ops.size false) a f s.drew (by simp) (by simp [List.countP_replicate]) ha ((Ext.drew s).to)
  (fun j hj => by
   obtain ⟨h1, h2⟩ := hal0 j hj
   exact (pl.px j).m (h0 j h2 h1) (Ext.drew s) (fun _ _ h => h))
  (fun j k hj hk hne => hd0 j k (hal0 j hj).2 (hal0 j hj).1 (hal0 k hk).2 (hal0 k hk).1 hne)
  (fun j b hj hb => .inl ⟨j, (hal0 j hj).2, (hal0 j hj).1, hb⟩)
  (fun j o' hj => (hnone j hj).elim) (fun _ _ => rfl)
end
end Go.Arm
