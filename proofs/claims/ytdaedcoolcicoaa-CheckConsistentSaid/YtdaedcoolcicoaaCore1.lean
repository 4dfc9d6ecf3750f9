/- Rules for steps of the code over memory with claims. -/
import Derived.WalkKit
namespace Go.Arm
open Go

/-- A frame, seen as a function of the slot. -/
abbrev Fr := Nat → Value
def get (a : Act) : Fr := fun t => a.tmps.getD t undef
def upd (f : Fr) (d : Nat) (v : Value) : Fr := fun t => if t = d then v else f t
def updO (f : Fr) (d : Option Nat) (v : Value) : Fr := match d with | some d => upd f d v | none => f
def ev (f : Fr) : Operand → Value
  | .tmp t => f t
  | .const v => v
  | .global g => .pointer (some ⟨g, 0, none⟩)
  | .func k => .func (.func k) #[] #[]

structure Fits (n : Nat) (f : Fr) (a : Act) : Prop where
  size : a.tmps.size = n
  defers : a.defers = []
  get : get a = f

theorem Fits.ev {n : Nat} {f : Fr} {a : Act} (h : Fits n f a) : a.eval = ev f := by
  funext x
  cases x with
  | tmp t => simp only [Act.eval, Arm.ev, ← h.get, Arm.get]
  | const v => rfl
  | global g => rfl
  | func k => rfl

theorem Fits.put {n : Nat} {f : Fr} {a : Act} (h : Fits n f a) {d : Option Nat} (hd : ∀ k, d = some k → k < n) (v : Value) :
    Fits n (updO f d v) (a.put d v) := by
  cases d with
  | none => exact h
  | some d =>
    have hd := hd d rfl
    refine ⟨by simp [Act.put, h.size], by simp [Act.put, h.defers], ?_⟩
    funext t
    simp only [Arm.get, Act.put, updO, upd, ← h.get]
    by_cases e : t = d
    · subst e; simp [h.size, hd]
    · rw [if_neg e]
      simp only [Array.getD_eq_getD_getElem?, Array.getElem?_setIfInBounds]
      rw [if_neg (fun x => e x.symm)]

abbrev Post := Exit → Fr → World → Prop
def lift (n : Nat) (Q : Post) : Exit → Act → World → Prop := fun e a w => ∃ f, Fits n f a ∧ Q e f w

/-- The weakest precondition over frames that are functions. -/
def W (P : Program) (n : Nat) (c : Code) (Q : Post) (f : Fr) (w : World) : Prop :=
  ∀ a, Fits n f a → c.wp P (lift n Q) a w

section
variable {P : Program} {n : Nat} {Q Q' : Post} {f : Fr} {w : World}

theorem W_mono {c : Code} (h : W P n c Q f w) (hq : ∀ e f w, Q e f w → Q' e f w) : W P n c Q' f w :=
  fun a ha => wp_mono (h a ha) fun _ _ _ ⟨f, hf, q⟩ => ⟨f, hf, hq _ _ _ q⟩

/-- What is to hold behind the first of two codes. -/
def Then (next : Fr → World → Prop) (Q : Post) : Post
  | .normal, f, w => next f w
  | e, f, w => Q e f w

theorem W_seq {x y : Code} (h : W P n x (Then (fun f w => W P n y Q f w) Q) f w) : W P n (.seq x y) Q f w := by
  intro a ha
  refine wp_seq (wp_mono (h a ha) ?_)
  rintro e a w ⟨f, hf, q⟩
  cases e with
  | normal => exact q a hf
  | _ => exact ⟨f, hf, q⟩

theorem W_seq_cut {x y : Code} (J : Fr → World → Prop) (h : W P n x (Then J Q) f w) (k : ∀ f w, J f w → W P n y Q f w) :
    W P n (.seq x y) Q f w :=
  W_seq (W_mono h fun e f w q => by cases e with | normal => exact k _ _ q | _ => exact q)

theorem W_skip (h : Q .normal f w) : W P n .skip Q f w := fun _ ha => wp_skip ⟨f, ha, h⟩
theorem W_exit {id : Nat} (h : Q (.exit id) f w) : W P n (.exit id) Q f w := fun _ ha => wp_exit ⟨f, ha, h⟩
theorem W_ret (h : Q .ret f w) : W P n .ret Q f w := fun _ ha => wp_ret ⟨f, ha, h⟩

theorem W_cond {c : Operand} {x y : Code} (b : Bool) (hc : ev f c = .bool b) (ht : b = true → W P n x Q f w) (hf : b = false → W P n y Q f w) :
    W P n (.cond c x y) Q f w := by
  intro a ha
  refine wp_cond_split (t := b) ?_ (fun e => ht e a ha) (fun e => hf e a ha)
  rw [ha.ev]; exact hc

def InBlock (id : Nat) (Q : Post) : Post
  | .exit k, f, w => if k = id then Q .normal f w else Q (.exit k) f w
  | e, f, w => Q e f w

theorem W_block {id : Nat} {c : Code} (h : W P n c (InBlock id Q) f w) : W P n (.block id c) Q f w := by
  intro a ha
  refine wp_block (wp_mono (h a ha) ?_)
  rintro e a w ⟨f, hf, q⟩
  cases e with
  | exit k =>
    simp only [InBlock, Exit.inBlock] at q ⊢
    split
    · rw [if_pos ‹_›] at q; exact ⟨f, hf, q⟩
    · rw [if_neg ‹_›] at q; exact ⟨f, hf, q⟩
  | _ => exact ⟨f, hf, q⟩

theorem least_of {p : Nat → Prop} (h : ∃ m, p m) : ∃ m, p m ∧ ∀ k, p k → m ≤ k := by
  obtain ⟨m, hm⟩ := h
  induction m using Nat.strongRecOn with
  | _ m ih =>
    by_cases hx : ∃ k, k < m ∧ p k
    · obtain ⟨k, hk, hp⟩ := hx; exact ih k hk hp
    · exact ⟨m, hm, fun k hp => by
        rcases Nat.lt_or_ge k m with h | h
        · exact (hx ⟨k, h, hp⟩).elim
        · exact h⟩

/-- A loop, by fuel: each round that goes on lowers the number. -/
theorem W_loop {c : Code} (J : Nat → Fr → World → Prop) (m : Nat) (h0 : J m f w)
    (round : ∀ m f w, J m f w → W P n c (Then (fun f' w' => ∃ m', m' < m ∧ J m' f' w') Q) f w) : W P n (.loop c) Q f w := by
  intro a ha
  classical
  let p : Act → World → Nat → Prop := fun a w m => ∃ f, Fits n f a ∧ J m f w
  let I : Act → World → Prop := fun a w => ∃ m, p a w m
  let μ : Act → World → Nat := fun a w => if h : ∃ m, p a w m then Classical.choose (least_of h) else 0
  have hμ : ∀ a w (h : I a w), p a w (μ a w) ∧ ∀ k, p a w k → μ a w ≤ k := by
    intro a w h
    have e : μ a w = Classical.choose (least_of h) := dif_pos h
    rw [e]; exact Classical.choose_spec (least_of h)
  refine wp_loop I μ ⟨m, f, ha, h0⟩ ?_
  intro a w hI
  obtain ⟨⟨f, hf, hJ⟩, _⟩ := hμ a w hI
  refine wp_mono (round _ f w hJ a hf) ?_
  rintro e a' w' ⟨f', hf', q⟩
  cases e with
  | normal =>
    obtain ⟨m', hlt, hJ'⟩ := q
    have hp : p a' w' m' := ⟨f', hf', hJ'⟩
    exact ⟨⟨m', hp⟩, Nat.lt_of_le_of_lt ((hμ a' w' ⟨m', hp⟩).2 m' hp) hlt⟩
  | _ => exact ⟨f', hf', q⟩

/-! Lists of operations. -/

def L (P : Program) (n : Nat) (ops : Array Oper) (Q : Post) (l : List Oper) (f : Fr) (w : World) : Prop :=
  ∀ a, Fits n f a → wpList P ops (lift n Q) l a w

theorem W_region {id : Nat} {l : List Oper} (h : L P n l.toArray Q l f w) : W P n (.region id l.toArray false) Q f w :=
  fun a ha => wp_region_lit (h a ha)

variable {ops : Array Oper} {rest : List Oper} {o : Oper}

theorem L_nil (h : Q .normal f w) : L P n ops Q [] f w := fun _ ha => ⟨f, ha, h⟩

/-- An operation without a guard whose run gives a value. -/
theorem L_val {v : Value} {w' : World} (hg : o.guard = none) (hd : ∀ k, o.dst = some k → k < n)
    (hr : (execOp (ev f) o).run P w = .ok (.value v) w') (h : L P n ops Q rest (updO f o.dst v) w') : L P n ops Q (o :: rest) f w := by
  intro a ha
  refine wpList_plain hg fun K hK => ?_
  unfold Oper.wp
  rw [ha.ev, hr]
  exact hK _ _ (h _ (ha.put hd v))

theorem L_skip {w' : World} (hg : o.guard = none) (hd : o.dst = none)
    (hr : (execOp (ev f) o).run P w = .ok .skip w') (h : L P n ops Q rest f w') : L P n ops Q (o :: rest) f w := by
  intro a ha
  refine wpList_plain hg fun K hK => ?_
  unfold Oper.wp
  rw [ha.ev, hr]
  refine hK _ _ (h _ ?_)
  rw [hd]; exact ha

theorem L_call {k : FuncId} {args : Array Value} {w' : World} {R : Ending → World → Prop} (hg : o.guard = none) (hd : ∀ k, o.dst = some k → k < n)
    (hr : (execOp (ev f) o).run P w = .ok (.enter k args) w') (hc : Calls P k args w' R)
    (h : ∀ e w'', R e w'' → ∃ v, e = .returned v ∧ L P n ops Q rest (updO f o.dst v) w'') : L P n ops Q (o :: rest) f w := by
  intro a ha
  refine wpList_plain hg fun K hK => ?_
  unfold Oper.wp
  rw [ha.ev, hr]
  refine hc.mono ?_
  intro e w'' he
  obtain ⟨v, rfl, hl⟩ := h e w'' he
  exact hK _ _ (hl _ (ha.put hd v))

theorem yielded_get {a : Act} (ha : Fits n f a) {j d : Nat} (hj : (ops[j]?).bind (·.dst) = some d) (hd : d < n) {b : Bool} (hv : f d = .bool b) :
    yielded ops a.tmps j = some b := by
  unfold yielded
  rw [hj]
  have : a.tmps[d]? = some (.bool b) := by
    have h1 : a.tmps.getD d undef = .bool b := by have := congrFun ha.get d; rw [hv] at this; exact this
    rw [Array.getD_eq_getD_getElem?] at h1
    have h2 : d < a.tmps.size := by rw [ha.size]; exact hd
    rw [Array.getElem?_eq_getElem h2] at h1 ⊢
    simpa using h1
  simp [this]

theorem yielded_undef {a : Act} (ha : Fits n f a) {j d : Nat} (hj : (ops[j]?).bind (·.dst) = some d) (hv : f d = undef) :
    yielded ops a.tmps j = none := by
  unfold yielded
  rw [hj]
  have h1 : a.tmps.getD d undef = undef := by have := congrFun ha.get d; rw [hv] at this; exact this
  rw [Array.getD_eq_getD_getElem?] at h1
  cases h : a.tmps[d]? with
  | none => simp [h]
  | some x => simp [h] at h1; subst h1; simp [h, undef]

/-- A guarded operation whose guard says yes. -/
theorem L_guard {j : Nat} {b : Bool} {d : Nat} (hg : o.guard = some (j, b)) (hj : (ops[j]?).bind (·.dst) = some d) (hd : d < n) (hv : f d = .bool b)
    (h : L P n ops Q ({ o with guard := none } :: rest) f w) : L P n ops Q (o :: rest) f w := by
  intro a ha
  have := h a ha
  unfold wpList at this ⊢
  have hw : Region.wanted o (yielded ops a.tmps) = true := by
    simp [Region.wanted, hg, yielded_get ha hj hd hv]
  rw [if_pos hw]
  rw [if_pos (by simp [Region.wanted])] at this
  exact this

/-- A guarded operation whose guard says no. -/
theorem L_unguard {j : Nat} {b c : Bool} {d : Nat} (hg : o.guard = some (j, b)) (hj : (ops[j]?).bind (·.dst) = some d) (hd : d < n) (hv : f d = .bool c)
    (hbc : (c == b) = false) (hk : ∀ k, o.dst = some k → k < n)
    (h : L P n ops Q rest (updO f o.dst undef) w) : L P n ops Q (o :: rest) f w := by
  intro a ha
  unfold wpList
  have hw : Region.wanted o (yielded ops a.tmps) = false := by
    simp only [Region.wanted, hg, yielded_get ha hj hd hv]
    cases b <;> cases c <;> simp_all
  rw [if_neg (by simp [hw])]
  exact h _ (ha.put hk undef)

theorem L_unguard' {j : Nat} {b : Bool} {d : Nat} (hg : o.guard = some (j, b)) (hj : (ops[j]?).bind (·.dst) = some d) (hv : f d = undef)
    (hk : ∀ k, o.dst = some k → k < n)
    (h : L P n ops Q rest (updO f o.dst undef) w) : L P n ops Q (o :: rest) f w := by
  intro a ha
  unfold wpList
  have hw : Region.wanted o (yielded ops a.tmps) = false := by
    simp [Region.wanted, hg, yielded_undef ha hj hv]
  rw [if_neg (by simp [hw])]
  exact h _ (ha.put hk undef)
end

/-! A call of a function, by its code. -/
def entry (args : List Value) : Fr := fun t => args.getD t undef

theorem Calls_of_W {P : Program} {k : FuncId} {fn : Func} {c : Code} {args : List Value} {w : World} {R : Ending → World → Prop} {n : Nat}
    (hf : P.funcs[k]? = some fn) (hb : fn.body = some c) (hn : fn.ntmps = n) (hl : args.length ≤ n)
    (h : W P n c (fun e f w => (e = .ret ∨ e = .normal) ∧ ∀ a : Array Value, a.size = n → (∀ t, a.getD t undef = f t) → ∃ v, (results fn a).run P w = .ok v w ∧ R (.returned v) w) (entry args) w) :
    Calls P k args.toArray w R := by
  refine calls_of_wp hf hb ?_
  have hfit : Fits n (entry args) { tmps := args.toArray ++ Array.replicate (fn.ntmps - args.toArray.size) undef, defers := [] } := by
    refine ⟨by simp [hn]; omega, rfl, ?_⟩
    funext t
    simp only [get, entry, Array.getD_eq_getD_getElem?, List.getD_eq_getElem?_getD]
    by_cases ht : t < args.length
    · rw [Array.getElem?_append_left (by simpa using ht)]; simp
    · rw [Array.getElem?_append_right (by simpa using ht)]
      rw [List.getElem?_eq_none (by omega)]
      simp only [Array.getElem?_replicate]
      split <;> rfl
  refine wp_mono (h _ hfit) ?_
  rintro e a w ⟨f, ha, he, hq⟩
  obtain ⟨v, h1, h2⟩ := hq a.tmps ha.size (fun t => by rw [← ha.get]; rfl)
  rcases he with rfl | rfl
  · exact ⟨ha.defers, v, h1, h2⟩
  · exact ⟨ha.defers, v, h1, h2⟩

end Go.Arm
namespace Go.Arm
open Go Go.RowKit

/-- A world and, of each block, how many of its cells nobody will write any more. -/
structure St where
  w : World
  g : Nat → Nat
  ok : ∀ b, w.heap.size ≤ b → g b = 0

/-- What was claimed stays as it was. -/
structure Le (s s' : St) : Prop where
  g : ∀ b, s.g b ≤ s'.g b
  cell : ∀ b o, o < s.g b → s'.w.cell? ⟨b, o, none⟩ = s.w.cell? ⟨b, o, none⟩
  obj : ∀ b, 0 < s.g b → (∀ c e z, s.w.heap[b]? ≠ some (.cells c e z)) → s'.w.heap[b]? = s.w.heap[b]?

theorem Le.refl (s : St) : Le s s := ⟨fun _ => Nat.le_refl _, fun _ _ _ => rfl, fun _ _ _ => rfl⟩
theorem Le.trans {a b c : St} (h : Le a b) (k : Le b c) : Le a c :=
  ⟨fun x => Nat.le_trans (h.g x) (k.g x), fun x o hx => (k.cell x o (Nat.lt_of_lt_of_le hx (h.g x))).trans (h.cell x o hx),
   fun x hx hc => by
    have e := h.obj x hx hc
    rw [← e]
    exact k.obj x (Nat.lt_of_lt_of_le hx (h.g x)) (fun c e' z => by rw [e]; exact hc c e' z)⟩

/-- Of the blocks that were there only those in M may have changed; the claims hold. -/
structure Tch (M : Nat → Prop) (s s' : St) : Prop where
  os : s'.w.os = s.w.os
  tape : s'.w.tape = s.w.tape
  output : s'.w.output = s.w.output
  size : s.w.heap.size ≤ s'.w.heap.size
  block : ∀ k, k < s.w.heap.size → ¬ M k → s'.w.heap[k]? = s.w.heap[k]?
  g : ∀ k, k < s.w.heap.size → ¬ M k → s'.g k = s.g k
  le : Le s s'

def No : Nat → Prop := fun _ => False
/-- Nothing that was there has changed. -/
abbrev Ext (s s' : St) : Prop := Tch No s s'

theorem Tch.refl (M : Nat → Prop) (s : St) : Tch M s s := ⟨rfl, rfl, rfl, Nat.le_refl _, fun _ _ _ => rfl, fun _ _ _ => rfl, Le.refl s⟩
theorem Tch.trans {M M' : Nat → Prop} {a b c : St} (h : Tch M a b) (k : Tch M' b c) (hm : ∀ x, M' x → M x ∨ a.w.heap.size ≤ x) : Tch M a c :=
  ⟨k.os.trans h.os, k.tape.trans h.tape, k.output.trans h.output, Nat.le_trans h.size k.size,
   fun x hx nx => (k.block x (Nat.lt_of_lt_of_le hx h.size) (fun mx => (hm x mx).elim nx (fun y => by omega))).trans (h.block x hx nx),
   fun x hx nx => (k.g x (Nat.lt_of_lt_of_le hx h.size) (fun mx => (hm x mx).elim nx (fun y => by omega))).trans (h.g x hx nx),
   h.le.trans k.le⟩
theorem Tch.ext {M : Nat → Prop} {a b c : St} (h : Tch M a b) (k : Ext b c) : Tch M a c := h.trans k (fun _ x => x.elim)
theorem Ext.trans {a b c : St} (h : Ext a b) (k : Ext b c) : Ext a c := Tch.trans h k (fun _ x => x.elim)
theorem Tch.mono {M M' : Nat → Prop} {a b : St} (h : Tch M a b) (hm : ∀ x, M x → M' x) : Tch M' a b :=
  ⟨h.os, h.tape, h.output, h.size, fun k hk nk => h.block k hk (fun x => nk (hm k x)), fun k hk nk => h.g k hk (fun x => nk (hm k x)), h.le⟩
theorem Ext.to {M : Nat → Prop} {a b : St} (h : Ext a b) : Tch M a b := h.mono (fun _ x => x.elim)
theorem Ext.refl (s : St) : Ext s s := Tch.refl _ s

theorem le_of_blocks {s s' : St} (hb : ∀ k, k < s.w.heap.size → s'.w.heap[k]? = s.w.heap[k]?) (hg : ∀ k, k < s.w.heap.size → s.g k ≤ s'.g k) : Le s s' := by
  refine ⟨fun b => ?_, fun b o ho => ?_, fun b hp _ => ?_⟩
  · rcases Nat.lt_or_ge b s.w.heap.size with h | h
    · exact hg b h
    · rw [s.ok b h]; exact Nat.zero_le _
  · rcases Nat.lt_or_ge b s.w.heap.size with h | h
    · simp only [World.cell?]; rw [hb b h]
    · rw [s.ok b h] at ho; omega
  · rcases Nat.lt_or_ge b s.w.heap.size with h | h
    · exact hb b h
    · rw [s.ok b h] at hp; omega

/-! Data. -/

class Rep (α : Type) where
  size : Nat
  agg : Bool
  rel : St → List Value → α → Prop
  len : ∀ {s cs x}, rel s cs x → cs.length = size
  mono : ∀ {s s' cs x}, Le s s' → rel s cs x → rel s' cs x
  one : ∀ {s cs x}, rel s cs x → ∀ v, v ∈ cs → v.oneCell' = true
  single : agg = false → size = 1

def pack (agg : Bool) (cs : List Value) : Value := if agg then .agg cs.toArray else cs.headD undef

/-- A value reads as a datum. -/
def V {α : Type} [Rep α] (s : St) (v : Value) (x : α) : Prop := ∃ cs, Rep.rel s cs x ∧ v = pack (Rep.agg α) cs

theorem V.mono {α : Type} [Rep α] {s s' : St} {v : Value} {x : α} (h : V s v x) (l : Le s s') : V s' v x := by
  obtain ⟨cs, h, e⟩ := h; exact ⟨cs, Rep.mono l h, e⟩

theorem V.cells {α : Type} [Rep α] {s : St} {v : Value} {x : α} (h : V s v x) : ∃ cs, Rep.rel s cs x ∧ v.cells = cs.toArray ∧ v = pack (Rep.agg α) cs := by
  obtain ⟨cs, h, e⟩ := h
  refine ⟨cs, h, ?_, e⟩
  subst e
  unfold pack
  cases ha : Rep.agg α with
  | true => simp [Value.cells]
  | false =>
    have h1 := Rep.len h
    rw [Rep.single ha] at h1
    match cs, h1 with
    | [c], _ =>
      have := Rep.one h c (by simp)
      simp only [List.headD_cons, Bool.false_eq_true, ↓reduceIte]
      cases c <;> simp_all [Value.cells, Value.oneCell']

/-- Cells of a block that hold a list of values, claimed. -/
def AtRO (s : St) (b o : Nat) (cs : List Value) : Prop :=
  ∀ j (h : j < cs.length), s.w.cell? ⟨b, o + j, none⟩ = some cs[j] ∧ o + j < s.g b

theorem AtRO.mono {s s' : St} {b o : Nat} {cs : List Value} (h : AtRO s b o cs) (l : Le s s') : AtRO s' b o cs :=
  fun j hj => ⟨(l.cell b _ (h j hj).2).trans (h j hj).1, Nat.lt_of_lt_of_le (h j hj).2 (l.g b)⟩

/-- A pointer to a datum that nobody writes. -/
def Ptr {α : Type} [Rep α] (s : St) (v : Value) (x : α) : Prop := ∃ b o cs, v = .pointer (some ⟨b, o, none⟩) ∧ Rep.rel s cs x ∧ AtRO s b o cs

theorem Ptr.mono {α : Type} [Rep α] {s s' : St} {v : Value} {x : α} (h : Ptr s v x) (l : Le s s') : Ptr s' v x := by
  obtain ⟨b, o, cs, e, h, k⟩ := h; exact ⟨b, o, cs, e, Rep.mono l h, k.mono l⟩

instance : Rep Int where
  size := 1
  agg := false
  rel _ cs x := cs = [.int .i64 x]
  len h := by rw [h]; rfl
  mono _ h := h
  one h v hv := by rw [h] at hv; simp at hv; rw [hv]; rfl
  single _ := rfl

instance : Rep Bool where
  size := 1
  agg := false
  rel _ cs x := cs = [.bool x]
  len h := by rw [h]; rfl
  mono _ h := h
  one h v hv := by rw [h] at hv; simp at hv; rw [hv]; rfl
  single _ := rfl

/-- An unsigned byte. -/
structure U8 where
  n : Int
  deriving DecidableEq
instance : Rep U8 where
  size := 1
  agg := false
  rel _ cs x := cs = [.int .u8 x.n]
  len h := by rw [h]; rfl
  mono _ h := h
  one h v hv := by rw [h] at hv; simp at hv; rw [hv]; rfl
  single _ := rfl

theorem V.int {s : St} {v : Value} {x : Int} (h : V s v x) : v = .int .i64 x := by obtain ⟨cs, h, e⟩ := h; rw [e, h]; rfl
theorem V.bool {s : St} {v : Value} {x : Bool} (h : V s v x) : v = .bool x := by obtain ⟨cs, h, e⟩ := h; rw [e, h]; rfl
theorem V.u8 {s : St} {v : Value} {x : U8} (h : V s v x) : v = .int .u8 x.n := by obtain ⟨cs, h, e⟩ := h; rw [e, h]; rfl
theorem Vint {s : St} {x : Int} : V s (.int .i64 x) x := ⟨_, rfl, rfl⟩
theorem Vbool {s : St} {x : Bool} : V s (.bool x) x := ⟨_, rfl, rfl⟩
/-- A row of data in a block, claimed. -/
def RowAt {α : Type} [Rep α] (s : St) (b o : Nat) (xs : List α) : Prop :=
  ∀ i (h : i < xs.length), ∃ cs, Rep.rel s cs xs[i] ∧ AtRO s b (o + i * Rep.size α) cs

theorem RowAt.mono {α : Type} [Rep α] {s s' : St} {b o : Nat} {xs : List α} (h : RowAt s b o xs) (l : Le s s') : RowAt s' b o xs :=
  fun i hi => let ⟨cs, h1, h2⟩ := h i hi; ⟨cs, Rep.mono l h1, h2.mono l⟩

def SliceRel {α : Type} [Rep α] (s : St) (cs : List Value) (xs : List α) : Prop :=
  ∃ base cap, cs = [.slice base xs.length cap] ∧ xs.length ≤ cap ∧ (xs ≠ [] → ∃ b o, base = some ⟨b, o, none⟩ ∧ RowAt s b o xs)

instance {α : Type} [Rep α] : Rep (List α) where
  size := 1
  agg := false
  rel := SliceRel
  len := by rintro s cs x ⟨base, cap, e, _⟩; rw [e]; rfl
  mono := by
    rintro s s' cs x l ⟨base, cap, e, hc, h⟩
    exact ⟨base, cap, e, hc, fun hx => let ⟨b, o, e, hr⟩ := h hx; ⟨b, o, e, hr.mono l⟩⟩
  one := by rintro s cs x ⟨base, cap, e, _⟩ v hv; rw [e] at hv; simp at hv; rw [hv]; rfl
  single _ := rfl

theorem V.slice {α : Type} [Rep α] {s : St} {v : Value} {xs : List α} (h : V s v xs) :
    ∃ base cap, v = .slice base xs.length cap ∧ xs.length ≤ cap ∧ (xs ≠ [] → ∃ b o, base = some ⟨b, o, none⟩ ∧ RowAt s b o xs) := by
  obtain ⟨cs, ⟨base, cap, e, hc, h⟩, rfl⟩ := h
  exact ⟨base, cap, by rw [e]; rfl, hc, h⟩

theorem Vslice {α : Type} [Rep α] {s : St} {base : Option Addr} {len cap : Nat} {xs : List α} (hl : len = xs.length) (hc : xs.length ≤ cap)
    (h : xs ≠ [] → ∃ b o, base = some ⟨b, o, none⟩ ∧ RowAt s b o xs) : V s (.slice base len cap) xs :=
  ⟨_, ⟨base, cap, rfl, hc, h⟩, by rw [hl]; rfl⟩

theorem Vnil {α : Type} [Rep α] {s : St} : V s (.slice none 0 0) ([] : List α) := Vslice rfl (Nat.le_refl _) (fun h => (h rfl).elim)

/-- The element of a list at a Go index. -/
def idx {α : Type} (xs : List α) (i : Int) : Option α := if 0 ≤ i then xs[i.toNat]? else none

theorem idx_some {α : Type} {xs : List α} {i : Int} {y : α} (h : idx xs i = some y) : 0 ≤ i ∧ i < xs.length ∧ xs[i.toNat]? = some y := by
  unfold idx at h
  split at h
  · refine ⟨‹_›, ?_, h⟩
    have := (List.getElem?_eq_some_iff.1 h).1
    omega
  · cases h


theorem bind_some {α β : Type} {o : Option α} {f : α → Option β} {r : β} (h : o.bind f = some r) : ∃ y, o = some y ∧ f y = some r :=
  Option.bind_eq_some_iff.1 h

end Go.Arm
namespace Go.Arm
open Go Go.RowKit

def aggDesc : TypeDesc → Bool
  | .struct _ | .array _ _ => true
  | _ => false

/-- What the program's table says of a type whose values read as α. -/
structure Ty (P : Program) (T : TypeId) (α : Type) [Rep α] : Prop where
  und : (P.underlying T).map aggDesc = some (Rep.agg α)
  inf : (P.info? T).map (·.size) = some (Rep.size α)

/-- The same, with the zero value and the bytes: for what grows. -/
structure TyZ (P : Program) (T : TypeId) (α : Type) [Rep α] (bytes : Nat) (z : Value) : Prop where
  ty : Ty P T α
  info : (P.info? T).map (fun i => (i.zero, i.size, i.bytes)) = some (some z, Rep.size α, bytes)
  zs : z.cells.size = Rep.size α
  pos : 0 < Rep.size α

section
variable {P : Program} {n : Nat} {Q : Post} {f : Fr} {w : World} {ops : Array Oper} {rest : List Oper} {s : St}
variable {d : Nat} {ty : TypeId} {pos : String} {aft : Array Edge}

theorem run_isAgg {T : TypeId} {α : Type} [Rep α] (h : Ty P T α) : (isAgg T).run P w = .ok (Rep.agg α) w := by
  obtain ⟨dd, h1, h2⟩ := Option.map_eq_some_iff.1 h.und
  unfold isAgg
  simp only [Sem.run_bind, run_underlying h1, Result.andThen_ok]
  cases dd <;> simp_all [aggDesc]

theorem run_sizeOf {T : TypeId} {k : Nat} (h : (P.info? T).map (·.size) = some k) : (sizeOf T).run P w = .ok k w := by
  obtain ⟨i, h1, h2⟩ := Option.map_eq_some_iff.1 h
  simp [sizeOf, typeInfo, h1, h2]

theorem L_move {x : Operand} {v : Value} (hv : ev f x = v) (hd : d < n) (h : L P n ops Q rest (upd f d v) w) :
    L P n ops Q (⟨some d, .move x, ty, pos, aft, none⟩ :: rest) f w :=
  L_val (v := v) rfl (fun k e => by cases e; exact hd) (by simp [execOp, hv]) h

theorem L_assign {x : Operand} {v : Value} (hv : ev f x = v) (hd : d < n) (h : L P n ops Q rest (upd f d v) w) :
    L P n ops Q (⟨some d, .assign x, ty, pos, aft, none⟩ :: rest) f w :=
  L_val (v := v) rfl (fun k e => by cases e; exact hd) (by simp [execOp, hv]) h

/-- The numbers that an int holds. -/
def inR (x : Int) : Prop := -9223372036854775808 ≤ x ∧ x ≤ 9223372036854775807
instance (x : Int) : Decidable (inR x) := by unfold inR; infer_instance

theorem wrap_in {x : Int} (h : inR x) : IntKind.i64.wrap x = x := by
  unfold inR at h
  rw [IntKind.wrap_i64]; omega

theorem L_add {T T' : TypeId} {x y : Operand} {a b : Int} (hx : ev f x = .int .i64 a) (hy : ev f y = .int .i64 b) (hr : inR (a + b)) (hd : d < n)
    (h : L P n ops Q rest (upd f d (.int .i64 (a + b))) w) : L P n ops Q (⟨some d, .binOp .add T x y T', ty, pos, aft, none⟩ :: rest) f w :=
  L_val (v := .int .i64 (a + b)) rfl (fun k e => by cases e; exact hd) (by simp [execOp, hx, hy, eqGuard, binOp, Op.intArith, wrap_in hr]) h

theorem L_sub {T T' : TypeId} {x y : Operand} {a b : Int} (hx : ev f x = .int .i64 a) (hy : ev f y = .int .i64 b) (hr : inR (a - b)) (hd : d < n)
    (h : L P n ops Q rest (upd f d (.int .i64 (a - b))) w) : L P n ops Q (⟨some d, .binOp .sub T x y T', ty, pos, aft, none⟩ :: rest) f w :=
  L_val (v := .int .i64 (a - b)) rfl (fun k e => by cases e; exact hd) (by simp [execOp, hx, hy, eqGuard, binOp, Op.intArith, wrap_in hr]) h

theorem L_rem {T T' : TypeId} {x y : Operand} {a b : Int} (hx : ev f x = .int .i64 a) (hy : ev f y = .int .i64 b) (h0 : b ≠ 0) (hd : d < n)
    (h : L P n ops Q rest (upd f d (.int .i64 (a.tmod b))) w) : L P n ops Q (⟨some d, .binOp .rem T x y T', ty, pos, aft, none⟩ :: rest) f w :=
  L_val (v := .int .i64 (a.tmod b)) rfl (fun k e => by cases e; exact hd) (by simp [execOp, hx, hy, eqGuard, binOp, Op.intDiv, h0]) h

theorem L_lss {T T' : TypeId} {x y : Operand} {k : IntKind} {a b : Int} (hx : ev f x = .int k a) (hy : ev f y = .int k b) (hd : d < n)
    (h : L P n ops Q rest (upd f d (.bool (decide (a < b)))) w) : L P n ops Q (⟨some d, .binOp .lss T x y T', ty, pos, aft, none⟩ :: rest) f w :=
  L_val (v := .bool (decide (a < b))) rfl (fun k e => by cases e; exact hd) (by simp [execOp, hx, hy, eqGuard, binOp, Op.intCmp]) h

theorem L_gtr {T T' : TypeId} {x y : Operand} {k : IntKind} {a b : Int} (hx : ev f x = .int k a) (hy : ev f y = .int k b) (hd : d < n)
    (h : L P n ops Q rest (upd f d (.bool (decide (b < a)))) w) : L P n ops Q (⟨some d, .binOp .gtr T x y T', ty, pos, aft, none⟩ :: rest) f w :=
  L_val (v := .bool (decide (b < a))) rfl (fun k e => by cases e; exact hd) (by simp [execOp, hx, hy, eqGuard, binOp, Op.intCmp]) h

theorem L_geq {T T' : TypeId} {x y : Operand} {k : IntKind} {a b : Int} (hx : ev f x = .int k a) (hy : ev f y = .int k b) (hd : d < n)
    (h : L P n ops Q rest (upd f d (.bool (decide (b ≤ a)))) w) : L P n ops Q (⟨some d, .binOp .geq T x y T', ty, pos, aft, none⟩ :: rest) f w :=
  L_val (v := .bool (decide (b ≤ a))) rfl (fun k e => by cases e; exact hd) (by simp [execOp, hx, hy, eqGuard, binOp, Op.intCmp]) h

theorem L_eql {T T' : TypeId} {x y : Operand} {k : IntKind} {a b : Int} (hx : ev f x = .int k a) (hy : ev f y = .int k b) (hd : d < n)
    (h : L P n ops Q rest (upd f d (.bool (decide (a = b)))) w) : L P n ops Q (⟨some d, .binOp .eql T x y T', ty, pos, aft, none⟩ :: rest) f w :=
  L_val (v := .bool (decide (a = b))) rfl (fun k e => by cases e; exact hd) (by simp [execOp, hx, hy, eqGuard, binOp, Op.intCmp]; rfl) h

theorem L_neq {T T' : TypeId} {x y : Operand} {k : IntKind} {a b : Int} (hx : ev f x = .int k a) (hy : ev f y = .int k b) (hd : d < n)
    (h : L P n ops Q rest (upd f d (.bool (!decide (a = b)))) w) : L P n ops Q (⟨some d, .binOp .neq T x y T', ty, pos, aft, none⟩ :: rest) f w :=
  L_val (v := .bool (!decide (a = b))) rfl (fun k e => by cases e; exact hd) (by simp [execOp, hx, hy, eqGuard, binOp, Op.intCmp, bne]; rfl) h

theorem L_not {T : TypeId} {x : Operand} {b : Bool} (hx : ev f x = .bool b) (hd : d < n)
    (h : L P n ops Q rest (upd f d (.bool (!b))) w) : L P n ops Q (⟨some d, .unOp .not T x, ty, pos, aft, none⟩ :: rest) f w :=
  L_val (v := .bool (!b)) rfl (fun k e => by cases e; exact hd) (by simp [execOp, hx, Op.unary]) h

theorem L_pick {c x y : Operand} {b : Bool} {v : Value} (hc : ev f c = .bool b) (hv : (if b then ev f x else ev f y) = v) (hd : d < n)
    (h : L P n ops Q rest (upd f d v) w) : L P n ops Q (⟨some d, .pick c x y, ty, pos, aft, none⟩ :: rest) f w :=
  L_val (v := v) rfl (fun k e => by cases e; exact hd) (by simp [execOp, hc, asBool, ← hv]) h

theorem L_len {α : Type} [Rep α] {T : TypeId} {x : Operand} {v : Value} {xs : List α} {E : TypeId} (hT : P.underlying T = some (.slice E)) (hx : ev f x = v) (hV : V s v xs) (hd : d < n)
    (h : L P n ops Q rest (upd f d (.int .i64 xs.length)) w) :
    L P n ops Q (⟨some d, .call ⟨.builtin .len, #[x], #[T]⟩, ty, pos, aft, none⟩ :: rest) f w := by
  obtain ⟨base, cap, rfl, _⟩ := hV.slice
  refine L_val (v := .int .i64 xs.length) rfl (fun k e => by cases e; exact hd) ?_ h
  simp [execOp, resolve, invoke, builtin, Builtin.len_, hx, run_underlying hT, goInt]

theorem L_extract {x : Operand} {k : Nat} {vs : Array Value} {v : Value} (hx : ev f x = .tuple vs) (hv : vs[k]? = some v) (hd : d < n)
    (h : L P n ops Q rest (upd f d v) w) : L P n ops Q (⟨some d, .extract x k, ty, pos, aft, none⟩ :: rest) f w :=
  L_val (v := v) rfl (fun k e => by cases e; exact hd) (by simp [execOp, Instr.extract, hx, hv]) h

theorem Addr.add_eq (b o k : Nat) : (⟨b, o, none⟩ : Addr).add k = ⟨b, o + k, none⟩ := by
  unfold Addr.add; split <;> simp_all

theorem L_index {α : Type} [Rep α] {T E : TypeId} {x i : Operand} {v : Value} {xs : List α} {k : IntKind} {j : Int} {y : α}
    (hT : P.underlying T = some (.slice E)) (hE : (P.info? E).map (·.size) = some (Rep.size α)) (hx : ev f x = v) (hV : V s v xs) (hi : ev f i = .int k j)
    (hy : idx xs j = some y) (hd : d < n) (h : ∀ p, Ptr s p y → L P n ops Q rest (upd f d p) w) :
    L P n ops Q (⟨some d, .indexAddr T x i, ty, pos, aft, none⟩ :: rest) f w := by
  obtain ⟨h0, h1, h2⟩ := idx_some hy
  obtain ⟨base, cap, rfl, hc, hr⟩ := hV.slice
  obtain ⟨hlt, he⟩ := List.getElem?_eq_some_iff.1 h2
  obtain ⟨b, o, rfl, hrow⟩ := hr (by intro e; subst e; simp at hlt)
  obtain ⟨cs, hrel, hat⟩ := hrow _ hlt
  rw [he] at hrel
  refine L_val (v := .pointer (some ⟨b, o + j.toNat * Rep.size α, none⟩)) rfl (fun k e => by cases e; exact hd) ?_ (h _ ⟨b, _, cs, rfl, hrel, hat⟩)
  simp [execOp, Instr.indexAt, hx, hi, asIntOf, run_underlying hT, h0, h1, run_sizeOf hE, Addr.add_eq]

theorem run_load_ro {α : Type} [Rep α] {T : TypeId} {b o : Nat} {cs : List Value} {x : α} (hT : Ty P T α) (hrel : Rep.rel s cs x) (hat : AtRO s b o cs) :
    (loadVar T ⟨b, o, none⟩).run P s.w = .ok (pack (Rep.agg α) cs) s.w := by
  unfold loadVar
  simp only [Sem.run_bind, run_isAgg hT, Result.andThen_ok]
  have hl := Rep.len hrel
  cases ha : Rep.agg α with
  | true =>
    simp only [if_true, Sem.run_bind, run_sizeOf hT.inf, Result.andThen_ok]
    rw [← hl, run_loadCells_list (cs := cs) (h := fun j v hj => by
      obtain ⟨h1, h2⟩ := List.getElem?_eq_some_iff.1 hj
      rw [Addr.add_eq, (hat j h1).1, h2])]
    simp [pack]
  | false =>
    rw [Rep.single ha] at hl
    match cs, hl with
    | [c], _ =>
      have := (hat 0 (by simp)).1
      simp only [Nat.add_zero, List.getElem_cons_zero] at this
      simp [this, pack]

theorem L_load {α : Type} [Rep α] {T : TypeId} {x : Operand} {p : Value} {y : α} (hT : Ty P T α) (hx : ev f x = p) (hP : Ptr s p y) (hd : d < n)
    (h : ∀ v, V s v y → L P n ops Q rest (upd f d v) s.w) : L P n ops Q (⟨some d, .load T x, ty, pos, aft, none⟩ :: rest) f s.w := by
  obtain ⟨b, o, cs, rfl, hrel, hat⟩ := hP
  refine L_val (v := pack (Rep.agg α) cs) rfl (fun k e => by cases e; exact hd) ?_ (h _ ⟨cs, hrel, rfl⟩)
  simp [execOp, Instr.loadAt, Instr.sureAddr, hx, run_load_ro hT hrel hat]

theorem L_load_int {T : TypeId} {x : Operand} {p : Value} {y : Int} (hT : Ty P T Int) (hx : ev f x = p) (hP : Ptr s p y) (hd : d < n)
    (h : L P n ops Q rest (upd f d (.int .i64 y)) s.w) : L P n ops Q (⟨some d, .load T x, ty, pos, aft, none⟩ :: rest) f s.w :=
  L_load hT hx hP hd (fun v hv => by rw [hv.int]; exact h)

theorem L_load_u8 {T : TypeId} {x : Operand} {p : Value} {y : U8} (hT : Ty P T U8) (hx : ev f x = p) (hP : Ptr s p y) (hd : d < n)
    (h : L P n ops Q rest (upd f d (.int .u8 y.n)) s.w) : L P n ops Q (⟨some d, .load T x, ty, pos, aft, none⟩ :: rest) f s.w :=
  L_load hT hx hP hd (fun v hv => by rw [hv.u8]; exact h)

theorem L_nilCheck {x : Operand} {a : Addr} (hx : ev f x = .pointer (some a)) (hd : d < n)
    (h : L P n ops Q rest (upd f d (.pointer (some a))) w) : L P n ops Q (⟨some d, .nilCheck x, ty, pos, aft, none⟩ :: rest) f w :=
  L_val (v := .pointer (some a)) rfl (fun k e => by cases e; exact hd) (by simp [execOp, hx]) h

theorem L_nilCheck_ptr {α : Type} [Rep α] {x : Operand} {p : Value} {y : α} (hx : ev f x = p) (hP : Ptr s p y) (hd : d < n)
    (h : L P n ops Q rest (upd f d p) w) : L P n ops Q (⟨some d, .nilCheck x, ty, pos, aft, none⟩ :: rest) f w := by
  obtain ⟨b, o, cs, rfl, _, _⟩ := hP
  exact L_nilCheck hx hd h

theorem L_convert_i64 {S T : TypeId} {x : Operand} {k : IntKind} {a : Int} {dd : TypeDesc} (hS : P.underlying S = some dd) (hT : P.underlying T = some (.int .i64))
    (hx : ev f x = .int k a) (hr : inR a) (hd : d < n)
    (h : L P n ops Q rest (upd f d (.int .i64 a)) w) : L P n ops Q (⟨some d, .convert S T x, ty, pos, aft, none⟩ :: rest) f w :=
  L_val (v := .int .i64 a) rfl (fun k e => by cases e; exact hd) (by
    simp [execOp, convert, run_underlying hS, run_underlying hT, hx, Conv.intToInt, wrap_in hr]) h

end
end Go.Arm
namespace Go.Arm
open Go Go.RowKit

/-! New blocks. -/

def St.new (s : St) (o : Obj) (c : Nat) : St :=
  ⟨s.w.alloc o, fun b => if b = s.w.heap.size then c else s.g b, fun b hb => by
    simp only [World.size_alloc] at hb
    rw [if_neg (by omega)]
    exact s.ok b (by omega)⟩

theorem Ext.new (s : St) (o : Obj) (c : Nat) : Ext s (s.new o c) := by
  have hb : ∀ k, k < s.w.heap.size → (s.new o c).w.heap[k]? = s.w.heap[k]? := fun k hk => Below.heap_alloc _ _ _ hk
  have hg : ∀ k, k < s.w.heap.size → (s.new o c).g k = s.g k := fun k hk => by
    show (if k = s.w.heap.size then c else s.g k) = _
    rw [if_neg (by omega)]
  exact ⟨rfl, rfl, rfl, by show _ ≤ (s.w.alloc o).heap.size; simp, fun k hk _ => hb k hk, fun k hk _ => hg k hk, le_of_blocks hb (fun k hk => Nat.le_of_eq (hg k hk).symm)⟩

def St.drew (s : St) : St := ⟨s.w.drew, s.g, s.ok⟩
theorem Ext.drew (s : St) : Ext s s.drew :=
  ⟨rfl, rfl, rfl, Nat.le_refl _, fun _ _ _ => rfl, fun _ _ _ => rfl, ⟨fun _ => Nat.le_refl _, fun _ _ _ => rfl, fun _ _ _ => rfl⟩⟩

/-- A new block of cells that is claimed whole holds them. -/
theorem atRO_new (s : St) (cs : List Value) (e : TypeId) (c : Nat) (o k : Nat) (ks : List Value) (hk : ks = (cs.drop o).take k) (hc : o + k ≤ c) :
    AtRO (s.new (.cells cs.toArray e) c) s.w.heap.size o ks := by
  intro j hj
  subst hk
  simp only [List.length_take, List.length_drop] at hj
  constructor
  · show (s.w.alloc _).cell? _ = _
    rw [World.cell?_alloc_new]
    rw [List.getElem_take, List.getElem_drop]
    rw [List.getElem?_toArray, List.getElem?_eq_getElem (by omega)]
  · show o + j < if s.w.heap.size = s.w.heap.size then c else _
    rw [if_pos rfl]; omega

section
variable {P : Program} {n : Nat} {Q : Post} {f : Fr} {w : World} {ops : Array Oper} {rest : List Oper} {s : St}
variable {d : Nat} {ty ty' : TypeId} {pos pos' : String} {aft aft' : Array Edge}

theorem rel_cells {α : Type} [Rep α] {v : Value} {x : α} (h : V s v x) : ∃ cs, Rep.rel s cs x ∧ v.cells.toList = cs ∧ cs.length = Rep.size α ∧ v = pack (Rep.agg α) cs := by
  obtain ⟨cs, h1, h2, h3⟩ := h.cells
  exact ⟨cs, h1, by rw [h2], Rep.len h1, h3⟩

/-- A variable that is made, and set once. -/
theorem run_alloc {T : TypeId} {z : Value} (hz : (P.info? T).map (·.zero) = some (some z)) :
    (Instr.alloc T true (.tuple #[])).run P w = .ok (.pointer (some ⟨w.heap.size, 0, none⟩)) (w.alloc (.cells z.cells T)) := by
  obtain ⟨i, h1, h2⟩ := Option.map_eq_some_iff.1 hz
  simp [Instr.alloc, zeroValue, typeInfo, h1, h2, newVar, newRow]

/-! Slices by their elements. -/

/-- Values that read as the elements of a list. -/
def Vs {α : Type} [Rep α] (s : St) : List Value → List α → Prop
  | [], [] => True
  | v :: vs, x :: xs => V s v x ∧ Vs s vs xs
  | _, _ => False

theorem Vs.nil {α : Type} [Rep α] : Vs s [] ([] : List α) := trivial
theorem Vs.cons {α : Type} [Rep α] {v : Value} {vs : List Value} {x : α} {xs : List α} (h : V s v x) (k : Vs s vs xs) : Vs s (v :: vs) (x :: xs) := ⟨h, k⟩

theorem Vs.get {α : Type} [Rep α] : ∀ {vs : List Value} {xs : List α}, Vs s vs xs → vs.length = xs.length ∧ ∀ i (h : i < xs.length) (h' : i < vs.length), V s vs[i] xs[i]
  | [], [], _ => ⟨rfl, fun i h => by simp at h⟩
  | v :: vs, x :: xs, ⟨h, k⟩ => by
    obtain ⟨h1, h2⟩ := Vs.get k
    refine ⟨by simp [h1], fun i hi hi' => ?_⟩
    cases i with
    | zero => exact h
    | succ i => exact h2 i (by simpa using hi) (by simpa using hi')
  | [], _ :: _, h => h.elim
  | _ :: _, [], h => h.elim

theorem foldl_set (cells : List Value) : ∀ (k : Nat) (arr : Array Value) (off : Nat), off + k + cells.length ≤ arr.size →
    ((cells.zipIdx k).foldl (fun (cs : Array Value) (x : Value × Nat) => cs.setIfInBounds (off + x.2) x.1) arr).toList = arr.toList.take (off + k) ++ cells ++ arr.toList.drop (off + k + cells.length) := by
  induction cells with
  | nil => intro k arr off h; simp
  | cons c cs ih =>
    intro k arr off h
    simp only [List.length_cons] at h
    rw [List.zipIdx_cons, List.foldl_cons, ih (k + 1) _ off (by simp; omega)]
    have e1 : (arr.setIfInBounds (off + k) c).toList = arr.toList.set (off + k) c := by simp
    simp only [e1]
    have hl : off + k < arr.toList.length := by simp; omega
    rw [show off + (k + 1) = off + k + 1 by omega]
    rw [List.take_set, List.drop_set, if_pos (by omega)]
    rw [List.take_succ_eq_append_getElem (by simpa using hl)]
    rw [List.set_append_right _ _ (by simp only [List.length_take]; exact Nat.min_le_left _ _)]
    simp only [List.length_take, Array.length_toList]
    rw [Nat.min_eq_left (by simp at hl; omega)]
    rw [show off + k + (c :: cs).length = off + k + 1 + cs.length by simp only [List.length_cons]; omega]
    simp only [Nat.sub_self, List.set_cons_zero, List.append_assoc, List.cons_append, List.nil_append]

theorem fill_rows {size : Nat} : ∀ (vs : List Value) (k : Nat) (arr : Array Value), (∀ v, v ∈ vs → v.cells.size = size) → (k + vs.length) * size ≤ arr.size →
    ∃ out, Instr.fill (fun i => some (i * size, size)) arr ((vs.zipIdx k).map fun x => (x.2, x.1)) = some out ∧
      out.toList = arr.toList.take (k * size) ++ vs.flatMap (fun v => v.cells.toList) ++ arr.toList.drop ((k + vs.length) * size)
  | [], k, arr, _, _ => ⟨arr, by simp [Instr.fill], by simp⟩
  | v :: vs, k, arr, hv, hl => by
    have h1 := hv v (by simp)
    have hle : k * size + size ≤ arr.size := by
      refine Nat.le_trans ?_ hl
      rw [← Nat.succ_mul]
      exact Nat.mul_le_mul_right _ (by simp only [List.length_cons]; omega)
    have hf := foldl_set v.cells.toList 0 arr (k * size) (by simp [h1]; exact hle)
    obtain ⟨out, ho, he⟩ := fill_rows vs (k + 1) (v.cells.zipIdx.foldl (fun cs (c, j) => cs.setIfInBounds (k * size + j) c) arr) (fun u hu => hv u (by simp [hu]))
      (by
        have : ∀ (l : List (Value × Nat)) (a : Array Value), (l.foldl (fun (cs : Array Value) (x : Value × Nat) => cs.setIfInBounds (k * size + x.2) x.1) a).size = a.size := by
          intro l; induction l with
          | nil => intro a; rfl
          | cons x l ih => intro a; rw [List.foldl_cons, ih]; simp
        rw [← Array.foldl_toList, this]
        refine Nat.le_trans (Nat.le_of_eq ?_) hl
        simp only [List.length_cons]; congr 1; omega)
    refine ⟨out, ?_, ?_⟩
    · rw [List.zipIdx_cons, List.map_cons, Instr.fill]
      simp only [h1]
      rw [if_neg (by simp; omega)]
      exact ho
    · rw [he]
      rw [← Array.foldl_toList, Array.toList_zipIdx]
      rw [show (fun (cs : Array Value) (x : Value × Nat) => match x with | (c, j) => cs.setIfInBounds (k * size + j) c) = (fun (cs : Array Value) (x : Value × Nat) => cs.setIfInBounds (k * size + x.2) x.1) from rfl]
      rw [hf]
      simp only [Nat.add_zero, Array.length_toList, h1, List.flatMap_cons]
      have hs : (v.cells.toList).length = size := by simp [h1]
      have ht : (List.take (k * size) arr.toList).length = k * size := by simp; omega
      rw [show (k + 1) * size = k * size + size from Nat.succ_mul k size]
      rw [List.take_append_of_le_length (by simp only [List.length_append, ht, hs]; omega)]
      rw [List.take_of_length_le (by simp only [List.length_append, ht, hs]; omega)]
      rw [List.drop_append, List.drop_eq_nil_of_le (by
        simp only [List.length_append, ht, hs]
        rw [show k + 1 + vs.length = (k + 1) + vs.length from rfl, Nat.add_mul, Nat.succ_mul]; omega)]
      simp only [List.length_append, ht, hs, List.nil_append, List.drop_drop, List.length_cons, List.append_assoc]
      congr 4
      have : (k + 1 + vs.length) * size = k * size + size + vs.length * size := by rw [Nat.add_mul, Nat.succ_mul]
      have h3 : (k + (vs.length + 1)) * size = k * size + size + vs.length * size := by rw [Nat.add_mul, Nat.succ_mul]; omega
      omega

end
end Go.Arm
namespace Go.Arm
open Go Go.RowKit

/-- A slice that the call itself has made (from block B on) and may append to: nothing behind its end is claimed. -/
def Bld {α : Type} [Rep α] (s : St) (B : Nat) (E : TypeId) (v : Value) (xs : List α) : Prop :=
  (v = .slice none 0 0 ∧ xs = []) ∨
  ∃ b cap cur, v = .slice (some ⟨b, 0, none⟩) xs.length cap ∧ B ≤ b ∧ s.w.heap[b]? = some (.cells cur E (0, 0)) ∧ xs.length ≤ cap ∧ cap ≤ maxLen ∧
    cur.size = cap * Rep.size α ∧ s.g b = xs.length * Rep.size α ∧ RowAt s b 0 xs

/-- The block of a slice's own. -/
def own (v : Value) : Nat → Prop := fun b => v.ownBlock = some b

section
variable {α : Type} [Rep α] {s s' : St} {B : Nat} {E : TypeId} {v : Value} {xs : List α}

theorem Bld.nil : Bld s B E (.slice none 0 0) ([] : List α) := .inl ⟨rfl, rfl⟩

theorem Bld.toV (h : Bld s B E v xs) : V s v xs := by
  rcases h with ⟨rfl, rfl⟩ | ⟨b, cap, cur, rfl, _, _, hc, _, _, _, hr⟩
  · exact Vnil
  · exact Vslice rfl hc (fun _ => ⟨b, 0, rfl, hr⟩)

theorem Bld.lt {b : Nat} (h : Bld s B E v xs) (e : own v b) : B ≤ b ∧ b < s.w.heap.size := by
  rcases h with ⟨rfl, rfl⟩ | ⟨b', cap, cur, rfl, hb, hh, _⟩
  · cases e
  · cases e; exact ⟨hb, (Array.getElem?_eq_some_iff.1 hh).1⟩

/-- It stays so while its own block is not touched. -/
theorem Bld.tch {M : Nat → Prop} (h : Bld s B E v xs) (t : Tch M s s') (hn : ∀ b, own v b → ¬ M b) : Bld s' B E v xs := by
  rcases h with ⟨rfl, rfl⟩ | ⟨b, cap, cur, rfl, hb, hh, hc, hm, hs, hg, hr⟩
  · exact .inl ⟨rfl, rfl⟩
  · have hlt := (Array.getElem?_eq_some_iff.1 hh).1
    exact .inr ⟨b, cap, cur, rfl, hb, (t.block b hlt (hn b rfl)).trans hh, hc, hm, hs, (t.g b hlt (hn b rfl)).trans hg, hr.mono t.le⟩

theorem Bld.ext (h : Bld s B E v xs) (t : Ext s s') : Bld s' B E v xs := h.tch t (fun _ _ x => x)
theorem Bld.base {B' : Nat} (h : Bld s B E v xs) (hB : B' ≤ B) : Bld s B' E v xs := by
  rcases h with h | ⟨b, cap, cur, h1, hb, r⟩
  · exact .inl h
  · exact .inr ⟨b, cap, cur, h1, Nat.le_trans hB hb, r⟩

/-- The cells of a row. -/
theorem RowAt.cells {b o : Nat} : ∀ {xs : List α}, RowAt s b o xs → ∃ cells : List Value, cells.length = xs.length * Rep.size α ∧ AtRO s b o cells ∧ (∀ u, u ∈ cells → u.oneCell' = true) ∧
    ∀ i (h : i < xs.length), Rep.rel s ((cells.drop (i * Rep.size α)).take (Rep.size α)) xs[i] := by
  intro xs
  induction xs generalizing o with
  | nil => intro _; exact ⟨[], by simp, fun j hj => by simp at hj, fun u hu => by simp at hu, fun i hi => by simp at hi⟩
  | cons x xs ih =>
    intro h
    obtain ⟨c0, hr0, ha0⟩ := h 0 (by simp)
    have hl0 := Rep.len hr0
    obtain ⟨cells, hl, ha, h1, hr⟩ := ih (o := o + Rep.size α) (fun i hi => by
      obtain ⟨cs, h1, h2⟩ := h (i + 1) (by simpa using hi)
      refine ⟨cs, by simpa using h1, ?_⟩
      rw [show o + Rep.size α + i * Rep.size α = o + (i + 1) * Rep.size α by rw [Nat.succ_mul]; omega]
      exact h2)
    refine ⟨c0 ++ cells, ?_, ?_, ?_, ?_⟩
    · simp only [List.length_append, hl0, hl, List.length_cons, Nat.succ_mul]; omega
    · intro j hj
      by_cases hlt : j < c0.length
      · rw [List.getElem_append_left hlt]
        have := ha0 j hlt
        simpa using this
      · rw [List.getElem_append_right (by omega)]
        have := ha (j - c0.length) (by simp only [List.length_append] at hj; omega)
        rw [show o + Rep.size α + (j - c0.length) = o + j by omega] at this
        exact this
    · intro u hu
      rcases List.mem_append.1 hu with hu | hu
      · exact Rep.one hr0 u hu
      · exact h1 u hu
    · intro i hi
      cases i with
      | zero =>
        simp only [Nat.zero_mul, List.drop_zero, List.getElem_cons_zero]
        rw [List.take_append_of_le_length (by omega), List.take_of_length_le (by omega)]
        simpa using hr0
      | succ i =>
        simp only [List.getElem_cons_succ]
        rw [List.drop_append, List.drop_eq_nil_of_le (by rw [hl0, Nat.succ_mul]; omega), List.nil_append, hl0,
          show (i + 1) * Rep.size α - Rep.size α = i * Rep.size α by rw [Nat.succ_mul]; omega]
        exact hr i (by simpa using hi)

theorem RowAt.of_cells {b o : Nat} {cells : List Value} (ha : AtRO s b o cells) (hl : cells.length = xs.length * Rep.size α)
    (hr : ∀ i (h : i < xs.length), Rep.rel s ((cells.drop (i * Rep.size α)).take (Rep.size α)) xs[i]) : RowAt s b o xs := by
  intro i hi
  refine ⟨_, hr i hi, ?_⟩
  intro j hj
  have hlen := Rep.len (hr i hi)
  rw [hlen] at hj
  have hle : (i + 1) * Rep.size α ≤ xs.length * Rep.size α := Nat.mul_le_mul_right _ hi
  rw [Nat.succ_mul] at hle
  have := ha (i * Rep.size α + j) (by omega)
  rw [List.getElem_take, List.getElem_drop]
  rw [show o + i * Rep.size α + j = o + (i * Rep.size α + j) by omega]
  exact this

/-- What is to be appended: its cells. -/
theorem V.source {ys : List α} {u : Value} (h : V s u ys) (hne : ys ≠ []) : ∃ (ad : Addr) (c : Nat) (cells : List Value), u = .slice (some ad) ys.length c ∧ cells.length = ys.length * Rep.size α ∧
    (∀ j x, cells[j]? = some x → s.w.cell? (ad.add j) = some x) ∧ (∀ x, x ∈ cells → x.oneCell' = true) ∧
    ∀ i (h : i < ys.length), Rep.rel s ((cells.drop (i * Rep.size α)).take (Rep.size α)) ys[i] := by
  obtain ⟨base, cap, rfl, hc, hr⟩ := h.slice
  obtain ⟨b, o, rfl, hrow⟩ := hr hne
  obtain ⟨cells, hl, ha, h1, hrel⟩ := hrow.cells
  refine ⟨⟨b, o, none⟩, cap, cells, rfl, hl, ?_, h1, hrel⟩
  intro j x hx
  obtain ⟨h1, h2⟩ := List.getElem?_eq_some_iff.1 hx
  rw [Addr.add_eq, (ha j h1).1, h2]
end

/-- A block whose cells are set, and how many of them are claimed. -/
def St.row (s : St) (b : Nat) (cs : Array Value) (c : Nat) (hb : b < s.w.heap.size) : St :=
  ⟨s.w.setRow b cs, fun k => if k = b then c else s.g k, fun k hk => by
    have : (s.w.setRow b cs).heap.size = s.w.heap.size := by simp [World.setRow]
    rw [this] at hk
    rw [if_neg (by omega)]; exact s.ok k hk⟩

theorem Tch.row {s : St} {b : Nat} {old cs : Array Value} {E : TypeId} {fr : Nat × Nat} {c : Nat} (hh : s.w.heap[b]? = some (.cells old E fr)) (hc : s.g b ≤ c)
    (hsame : ∀ o, o < s.g b → cs[o]? = old[o]?) (hb : b < s.w.heap.size) : Tch (fun k => k = b) s (s.row b cs c hb) := by
  have hsz : (s.w.setRow b cs).heap.size = s.w.heap.size := by simp [World.setRow]
  have hoth : ∀ k, k ≠ b → (s.w.setRow b cs).heap[k]? = s.w.heap[k]? := fun k hk => setRow_other s.w b k cs hk
  refine ⟨rfl, rfl, rfl, Nat.le_of_eq hsz.symm, fun k _ nk => hoth k nk, fun k _ nk => if_neg nk, ⟨fun k => ?_, fun k o ho => ?_, fun k _ hn => ?_⟩⟩
  · show s.g k ≤ if k = b then c else s.g k
    split
    · subst_vars; exact hc
    · exact Nat.le_refl _
  · show (s.w.setRow b cs).cell? _ = _
    by_cases e : k = b
    · subst e
      simp only [World.cell?, setRow_heap s.w k old cs E fr hh, hh]
      simpa using hsame o ho
    · simp only [World.cell?]; rw [hoth k e]
  · by_cases e : k = b
    · subst e; exact (hn _ _ _ hh).elim
    · exact hoth k e

theorem RowAt.append {α : Type} [Rep α] {s : St} {b o : Nat} {xs ys : List α} (h : RowAt s b o xs) (k : RowAt s b (o + xs.length * Rep.size α) ys) : RowAt s b o (xs ++ ys) := by
  intro i hi
  by_cases hlt : i < xs.length
  · obtain ⟨cs, h1, h2⟩ := h i hlt
    exact ⟨cs, by rw [List.getElem_append_left hlt]; exact h1, h2⟩
  · obtain ⟨cs, h1, h2⟩ := k (i - xs.length) (by simp only [List.length_append] at hi; omega)
    refine ⟨cs, by rw [List.getElem_append_right (by omega)]; exact h1, ?_⟩
    have : o + xs.length * Rep.size α + (i - xs.length) * Rep.size α = o + i * Rep.size α := by
      rw [Nat.add_assoc, ← Nat.add_mul]; congr 2; omega
    rw [← this]; exact h2

theorem RowAt.le {α : Type} [Rep α] {s : St} {b o : Nat} {xs : List α} (h : RowAt s b o xs) (hp : 0 < Rep.size α) (hne : xs ≠ []) : o + xs.length * Rep.size α ≤ s.g b := by
  obtain ⟨cells, hl, ha, _⟩ := h.cells
  have hpos : 0 < xs.length := List.length_pos_iff.2 hne
  have h1 : 0 < xs.length * Rep.size α := Nat.mul_pos hpos hp
  have := (ha (xs.length * Rep.size α - 1) (by omega)).2
  omega

section
variable {P : Program} {n : Nat} {Q : Post} {f : Fr} {ops : Array Oper} {rest : List Oper} {s s0 : St}
variable {d : Nat} {ty : TypeId} {pos : String} {aft : Array Edge} {α : Type} [Rep α]

/-- What an append leaves. -/
structure Grows (s : St) (B : Nat) (E : TypeId) (v v' : Value) (zs : List α) (s' : St) : Prop where
  tch : Tch (own v) s s'
  bld : Bld s' B E v' zs
  own : ∀ b, own v' b → Arm.own v b ∨ s.w.heap.size ≤ b

theorem run_append_bld {T E : TypeId} {B bytes : Nat} {z v u : Value} {xs ys : List α} (hT : P.underlying T = some (.slice E)) (hZ : TyZ P E α bytes z)
    (hB : Bld s B E v xs) (hbase : B ≤ s.w.heap.size) (hV : V s u ys) (hlen : (xs.length + ys.length) * bytes ≤ 140737488355328) (hmax : xs.length + ys.length ≤ maxLen) :
    ∃ v' s', (Builtin.append_ #[T, T] ty #[v, u]).run P s.w = .ok v' s'.w ∧ Grows s B E v v' (xs ++ ys) s' := by
  obtain ⟨i, hi, hz, hsz, hby⟩ := info_parts hZ.info
  by_cases hne : ys = []
  · subst hne
    obtain ⟨base, cap, rfl, _, _⟩ := hV.slice
    refine ⟨v, s, ?_, ⟨Tch.refl _ _, by simpa using hB, fun b hb => .inl hb⟩⟩
    simp only [List.length_nil]
    rcases hB with ⟨rfl, rfl⟩ | ⟨b, cap', cur, rfl, _, _, hnc, _⟩
    · cases base <;> simp [Builtin.append_, run_underlying hT, sizeOf, typeInfo, hi, Builtin.lenOf, Builtin.firstCells, loadCells, loadCellsFrom]
    · cases base <;> simp [Builtin.append_, run_underlying hT, sizeOf, typeInfo, hi, Builtin.lenOf, Builtin.firstCells, hnc, storeCells, loadCells, loadCellsFrom]
  obtain ⟨ad, c, news, rfl, hnl, hnews, hn1, hnrel⟩ := hV.source hne
  have hypos : 0 < ys.length := List.length_pos_iff.2 hne
  have hsmall : ((xs.length + ys.length : Nat) : Int) ≤ 9223372036854775807 := by simp only [maxLen] at hmax; omega
  -- a new block
  have fresh : ∀ (olds : List Value) (k : Nat), olds.length = xs.length * Rep.size α → xs.length + ys.length ≤ k → k ≤ maxLen →
      (∀ i (h : i < xs.length), Rep.rel s ((olds.drop (i * Rep.size α)).take (Rep.size α)) xs[i]) → (v = .slice none 0 0 → True) →
      ∃ s' : St, s'.w = s.w.drew.alloc (.cells (olds.toArray ++ news.toArray ++ Builtin.zeroCells z.cells (k - (xs.length + ys.length))) E) ∧
        Grows s B E v (.slice (some ⟨s.w.heap.size, 0, none⟩) (xs.length + ys.length) k) (xs ++ ys) s' := by
    intro olds k hol hk hkm horel _
    have hE := (Ext.drew s).trans (Ext.new s.drew (.cells (olds ++ news ++ (Builtin.zeroCells z.cells (k - (xs.length + ys.length))).toList).toArray E) ((xs.length + ys.length) * Rep.size α))
    have hcl : (olds ++ news).length = (xs ++ ys).length * Rep.size α := by simp [hol, hnl, Nat.add_mul]
    refine ⟨_, ?_, hE.to, .inr ⟨s.w.heap.size, k, (olds ++ news ++ (Builtin.zeroCells z.cells (k - (xs.length + ys.length))).toList).toArray, by simp, hbase, heap_alloc_new s.w.drew _, by simpa using hk, hkm, ?_, ?_, ?_⟩, fun b hb => .inr ?_⟩
    · show s.w.drew.alloc _ = _
      congr 2
      apply Array.ext'
      simp
    · simp only [List.size_toArray, List.length_append, Array.length_toList, hol, hnl, size_zeroCells, hZ.zs, ← Nat.add_mul]
      congr 1; omega
    · show (if s.w.heap.size = s.w.heap.size then _ else _) = _
      rw [if_pos rfl]; simp
    · refine RowAt.of_cells (cells := olds ++ news) ?_ hcl ?_
      · refine atRO_new s.drew _ E _ 0 ((xs.length + ys.length) * Rep.size α) _ ?_ (by omega)
        rw [List.drop_zero, List.take_append_of_le_length (by simp [hol, hnl, Nat.add_mul]), List.take_of_length_le (by simp [hol, hnl, Nat.add_mul])]
      · intro j hj
        by_cases hlt : j < xs.length
        · rw [List.getElem_append_left hlt]
          have hr := Rep.mono hE.le (horel j hlt)
          have hle : (j + 1) * Rep.size α ≤ olds.length := by rw [hol]; exact Nat.mul_le_mul_right _ hlt
          rw [Nat.succ_mul] at hle
          rw [List.drop_append_of_le_length (by omega), List.take_append_of_le_length (by simp; omega)]
          exact hr
        · rw [List.getElem_append_right (by omega)]
          have hr := Rep.mono hE.le (hnrel (j - xs.length) (by simp only [List.length_append] at hj; omega))
          have hge : olds.length ≤ j * Rep.size α := by rw [hol]; exact Nat.mul_le_mul_right _ (by omega)
          rw [List.drop_append, List.drop_eq_nil_of_le hge, List.nil_append, hol, ← Nat.sub_mul]
          exact hr
    · simp only [Arm.own, Value.ownBlock, Option.some.injEq] at hb; omega
  rcases hB with ⟨rfl, rfl⟩ | ⟨b, cap, cur, rfl, hbb, hh, hxc, hcm, hcs, hg, hrow⟩
  · have hr := run_append_nil (P := P) s.w T ty E i z hT hi hz ad ys.length c news (by rw [hnl, hsz]) hnews hypos (by simpa using hsmall)
      (by rw [hby]; simp only [List.length_nil, Nat.zero_add] at hlen; omega)
    obtain ⟨s', hw, hgr⟩ := fresh [] (grownCap s.w ys.length 0 E) (by simp) (by simp; exact grownCap_ge _ _ _ _) (grownCap_le_maxLen _ _ _ _ (by simpa using hmax)) (fun j hj => by simp at hj) (fun _ => trivial)
    simp only [List.length_nil, Nat.zero_add, Array.empty_append] at hw hgr
    exact ⟨_, s', by rw [hr, hw], hgr⟩
  · by_cases hroom : xs.length + ys.length ≤ cap
    · have hfit : xs.length * i.size + news.length ≤ cur.size := by rw [hnl, hcs, hsz, ← Nat.add_mul]; exact Nat.mul_le_mul_right _ hroom
      have hr := run_append_room (P := P) s.w T ty E i hT hi b xs.length cap cur hh ad ys.length c news (by rw [hnl, hsz]) hnews hn1 hroom hfit
      rw [hsz] at hr hfit
      have hlt := (Array.getElem?_eq_some_iff.1 hh).1
      let cs' := (cur.toList.take (xs.length * Rep.size α) ++ news ++ cur.toList.drop (xs.length * Rep.size α + news.length)).toArray
      have htl : (cur.toList.take (xs.length * Rep.size α)).length = xs.length * Rep.size α := by simp; omega
      have hsame : ∀ o, o < s.g b → cs'[o]? = cur[o]? := by
        intro o ho
        rw [hg] at ho
        simp only [cs', List.getElem?_toArray, List.append_assoc]
        rw [List.getElem?_append_left (by omega), List.getElem?_take, if_pos ho]
        simp
      have ht := Tch.row (c := (xs.length + ys.length) * Rep.size α) hh (by rw [hg]; exact Nat.mul_le_mul_right _ (by omega)) hsame hlt
      refine ⟨_, s.row b cs' ((xs.length + ys.length) * Rep.size α) hlt, hr, ht.mono (fun x hx => by subst hx; rfl), .inr ⟨b, cap, cs', by simp, hbb, setRow_heap s.w b cur _ E _ hh, by simpa using hroom, hcm, ?_, ?_, ?_⟩, fun x hx => .inl hx⟩
      · simp only [cs', List.size_toArray, List.length_append, htl, List.length_drop, Array.length_toList]; omega
      · show (if b = b then _ else _) = _
        rw [if_pos rfl]; simp
      · refine RowAt.append (hrow.mono ht.le) ?_
        refine RowAt.of_cells (cells := news) ?_ hnl (fun j hj => Rep.mono ht.le (hnrel j hj))
        intro j hj
        constructor
        · show (s.w.setRow b cs').cell? _ = _
          simp only [World.cell?, setRow_heap s.w b cur cs' E _ hh]
          simp only [cs', List.getElem?_toArray, List.append_assoc]
          rw [List.getElem?_append_right (by omega), htl, show 0 + xs.length * Rep.size α + j - xs.length * Rep.size α = j by omega, List.getElem?_append_left hj]
          simp
        · show _ < if b = b then _ else _
          rw [if_pos rfl, Nat.add_mul]; omega
    · obtain ⟨olds, hol, hoa, _, horel⟩ := hrow.cells
      have hr := run_append_grow (P := P) s.w T ty E i z hT hi hz ⟨b, 0, none⟩ xs.length cap olds (by rw [hol, hsz]) (fun j x hx => by
        obtain ⟨h1, h2⟩ := List.getElem?_eq_some_iff.1 hx
        rw [Addr.add_eq, (hoa j h1).1, h2]) ad ys.length c news (by rw [hnl, hsz]) hnews (by omega) hsmall (growslice_fits (by omega) (by rw [hby]; exact hlen))
      obtain ⟨s', hw, hgr⟩ := fresh olds (grownCap s.w (xs.length + ys.length) cap E) hol (grownCap_ge _ _ _ _) (grownCap_le_maxLen _ _ _ _ hmax) horel (fun _ => trivial)
      exact ⟨_, s', by rw [hr, hw], hgr⟩

theorem L_append {T E : TypeId} {B bytes : Nat} {z v u : Value} {xs ys : List α} {x y : Operand} (hT : P.underlying T = some (.slice E)) (hZ : TyZ P E α bytes z)
    (hx : ev f x = v) (hy : ev f y = u) (hB : Bld s B E v xs) (hbase : B ≤ s.w.heap.size) (hV : V s u ys)
    (hlen : (xs.length + ys.length) * bytes ≤ 140737488355328) (hmax : xs.length + ys.length ≤ maxLen) (hd : d < n)
    (h : ∀ v' s', Grows s B E v v' (xs ++ ys) s' → L P n ops Q rest (upd f d v') s'.w) :
    L P n ops Q (⟨some d, .call ⟨.builtin .append, #[x, y], #[T, T]⟩, ty, pos, aft, none⟩ :: rest) f s.w := by
  obtain ⟨v', s', hr, hg⟩ := run_append_bld (ty := ty) hT hZ hB hbase hV hlen hmax
  refine L_val (v := v') rfl (fun k e => by cases e; exact hd) (w' := s'.w) ?_ (h v' s' hg)
  simp [execOp, resolve, invoke, builtin, hx, hy, hr]

/-- The operands of a list's elements, in their order. -/
def Parts (f : Fr) : List (Nat × Operand) → List Value → Nat → Prop
  | [], [], _ => True
  | (i, x) :: r, v :: vs, k => i = k ∧ ev f x = v ∧ Parts f r vs (k + 1)
  | _, _, _ => False

theorem Parts.eq : ∀ {ps : List (Nat × Operand)} {vs : List Value} {k : Nat}, Parts f ps vs k → ps.map (fun p => (p.1, ev f p.2)) = (vs.zipIdx k).map fun x => (x.2, x.1)
  | [], [], _, _ => rfl
  | (i, x) :: r, v :: vs, k, ⟨h1, h2, h3⟩ => by
    rw [List.map_cons, List.zipIdx_cons, List.map_cons, Parts.eq h3, h1, h2]
  | [], _ :: _, _, h => h.elim
  | _ :: _, [], _, h => h.elim

theorem L_buildSlice {T E : TypeId} {bytes len : Nat} {z : Value} {vs : List Value} {xs : List α} {parts : List (Nat × Operand)} (hT : P.underlying T = some (.slice E)) (hZ : TyZ P E α bytes z)
    (hp : Parts f parts vs 0) (hVs : Vs s vs xs) (hl : xs.length = len) (hsmall : len * Rep.size α ≤ 16777216) (hd : d < n)
    (h : ∀ s' v, Ext s s' → Bld s' s.w.heap.size E v xs → V s' v xs → L P n ops Q rest (upd f d v) s'.w) :
    L P n ops Q (⟨some d, .buildSlice T len parts.toArray, ty, pos, aft, none⟩ :: rest) f s.w := by
  obtain ⟨i, hi, hz, hsz, hby⟩ := info_parts hZ.info
  obtain ⟨hlv, hgv⟩ := Vs.get hVs
  have hsizes : ∀ v, v ∈ vs → v.cells.size = Rep.size α := by
    intro v hv
    obtain ⟨j, hj, rfl⟩ := List.getElem_of_mem hv
    obtain ⟨cs, _, h2, h3, _⟩ := rel_cells (hgv j (by omega) hj)
    rw [← h3, ← h2]; simp
  have hfill : ∀ A : Array Value, A.size = len * Rep.size α → Instr.fill (fun i => some (i * Rep.size α, Rep.size α)) A (parts.map fun p => (p.1, ev f p.2)) = some (vs.flatMap (fun v => v.cells.toList)).toArray := by
    intro A hA
    obtain ⟨out, ho, he⟩ := fill_rows (size := Rep.size α) vs 0 A hsizes (by simp [hlv, hl, hA])
    rw [Parts.eq hp, ho]
    congr 1
    apply Array.ext'
    rw [he]
    simp only [Nat.zero_mul, List.take_zero, List.nil_append, Nat.zero_add]
    rw [List.drop_eq_nil_of_le (by simp [hlv, hl, hA])]
    simp
  obtain ⟨out, hout'⟩ : ∃ out : Array Value, out = (vs.flatMap (fun v => v.cells.toList)).toArray := ⟨_, rfl⟩
  have hout : out.toList = vs.flatMap (fun v => v.cells.toList) := by rw [hout']
  rw [← hout'] at hfill
  have hrun : (Instr.buildSlice T len (parts.toArray.map fun p => (p.1, ev f p.2))).run P s.w = .ok (.slice (some ⟨s.w.heap.size, 0, none⟩) len len) (s.w.alloc (.cells out E)) := by
    have hn : ¬ (16777216 < len * Rep.size α) := by omega
    unfold Instr.buildSlice
    simp only [Sem.run_bind, run_underlying hT, Result.andThen_ok, sizeOf, typeInfo, run_program, hi, Sem.run_pure, hsz]
    rw [if_neg (by simpa using hn)]
    by_cases h0 : len * Rep.size α = 0
    · rw [if_pos h0]
      simp only [Sem.run_bind, Sem.run_pure, Result.andThen_ok, List.map_toArray]
      rw [hfill _ (by simp)]
      simp [newRow]
    · rw [if_neg h0]
      simp only [Sem.run_bind, Sem.run_pure, Result.andThen_ok, List.map_toArray, zeroValue, typeInfo, run_program, hi, hz]
      rw [hfill _ (by simp)]
      simp [newRow]
  have hcl : out.toList.length = xs.length * Rep.size α := by
    rw [hout]
    have : ∀ (l : List Value), (∀ v, v ∈ l → v.cells.size = Rep.size α) → (l.flatMap (fun v => v.cells.toList)).length = l.length * Rep.size α := by
      intro l; induction l with
      | nil => intro _; simp
      | cons v l ih => intro hv; rw [List.flatMap_cons, List.length_append, ih (fun u hu => hv u (by simp [hu])), Array.length_toList, hv v (by simp), List.length_cons, Nat.succ_mul]; omega
    rw [this vs hsizes, hlv]
  have hrelAt : ∀ j (hj : j < xs.length), Rep.rel s ((out.toList.drop (j * Rep.size α)).take (Rep.size α)) xs[j] := by
    intro j hj
    rw [hout]
    have key : ∀ (l : List Value) (j : Nat) (hj : j < l.length), (∀ v, v ∈ l → v.cells.size = Rep.size α) → ((l.flatMap (fun v => v.cells.toList)).drop (j * Rep.size α)).take (Rep.size α) = l[j].cells.toList := by
      intro l; induction l with
      | nil => intro j hj; simp at hj
      | cons v l ih =>
        intro j hj hv
        have hv0 := hv v (by simp)
        rw [List.flatMap_cons]
        cases j with
        | zero => simp only [Nat.zero_mul, List.drop_zero, List.getElem_cons_zero]; rw [List.take_append_of_le_length (by simp [hv0]), List.take_of_length_le (by simp [hv0])]
        | succ j =>
          rw [List.drop_append, List.drop_eq_nil_of_le (by rw [Array.length_toList, hv0, Nat.succ_mul]; omega), List.nil_append, Array.length_toList, hv0,
            show (j + 1) * Rep.size α - Rep.size α = j * Rep.size α by rw [Nat.succ_mul]; omega]
          simpa using ih j (by simpa using hj) (fun u hu => hv u (by simp [hu]))
    rw [key vs j (by omega) hsizes]
    obtain ⟨cs, h1, h2, _⟩ := rel_cells (hgv j hj (by omega))
    rw [h2]; exact h1
  have hE := Ext.new s (.cells out E) (xs.length * Rep.size α)
  have hrow : RowAt (s.new (.cells out E) (xs.length * Rep.size α)) s.w.heap.size 0 xs := by
    refine RowAt.of_cells (cells := out.toList) ?_ hcl (fun j hj => Rep.mono hE.le (hrelAt j hj))
    have := atRO_new s out.toList E (xs.length * Rep.size α) 0 (xs.length * Rep.size α) out.toList (by rw [List.drop_zero, List.take_of_length_le (by omega)]) (by omega)
    simpa using this
  have hB : Bld (s.new (.cells out E) (xs.length * Rep.size α)) s.w.heap.size E (.slice (some ⟨s.w.heap.size, 0, none⟩) len len) xs :=
    .inr ⟨s.w.heap.size, len, out, by rw [hl], Nat.le_refl _, heap_alloc_new s.w _, by omega, by
      have h1 : len ≤ len * Rep.size α := Nat.le_mul_of_pos_right _ hZ.pos
      simp only [maxLen]; omega, by rw [← Array.length_toList, hcl, hl], by
      show (if s.w.heap.size = s.w.heap.size then _ else _) = _
      rw [if_pos rfl], hrow⟩
  refine L_val (v := .slice (some ⟨s.w.heap.size, 0, none⟩) len len) rfl (fun k e => by cases e; exact hd) (w' := s.w.alloc (.cells out E)) ?_ (h _ _ hE hB hB.toV)
  simp only [execOp]
  rw [Sem.run_bind, hrun]; rfl
end
end Go.Arm
namespace Go.Arm
open Go Go.RowKit

section
variable {P : Program} {n : Nat} {Q : Post} {f : Fr} {w : World} {ops : Array Oper} {rest : List Oper} {s : St}
variable {d : Nat} {ty : TypeId} {pos : String} {aft : Array Edge} {α β : Type} [Rep α] [Rep β]

/-- A part of a list, by Go's bounds (within its length). -/
def cut (xs : List α) (lo hi : Int) : Option (List α) := if 0 ≤ lo ∧ lo ≤ hi ∧ hi ≤ xs.length then some ((xs.take hi.toNat).drop lo.toNat) else none

/-! Calls. -/

/-- A function that has a body. -/
structure Callee (P : Program) (k : FuncId) : Prop where
  is : ∃ fn, P.funcs[k]? = some fn ∧ (fn.name == "runtime.NumGoroutine") = false ∧ fn.body.isNone = false

/-- What a call comes to: it returns; nothing that was there has changed. -/
def Ret (s : St) (Φ : Value → St → Prop) : Ending → World → Prop := fun e w' => ∃ v s', e = .returned v ∧ s'.w = w' ∧ Ext s s' ∧ Φ v s'

theorem run_callFunc {k : FuncId} (hk : Callee P k) (args : Array Value) : (callFunc k args).run P w = .ok (.enter k args) w := by
  obtain ⟨fn, h1, h2, h3⟩ := hk.is
  have e2 : ¬ fn.name = "runtime.NumGoroutine" := by simpa using h2
  have e3 : ¬ fn.body = none := by intro e; rw [e] at h3; simp at h3
  simp [callFunc, h1, e2, e3]

theorem L_calls {k : FuncId} {args : Array Operand} {tys : Array TypeId} {vs : Array Value} {Φ : Value → St → Prop} (hk : Callee P k) (ha : args.map (ev f) = vs)
    (hc : Calls P k vs s.w (Ret s Φ)) (hd : d < n) (h : ∀ v s', Ext s s' → Φ v s' → L P n ops Q rest (upd f d v) s'.w) :
    L P n ops Q (⟨some d, .call ⟨.value (.func k), args, tys⟩, ty, pos, aft, none⟩ :: rest) f s.w := by
  refine L_call rfl (fun k e => by cases e; exact hd) (w' := s.w) (k := k) (args := vs) ?_ hc ?_
  · simp [execOp, resolve, ev, Deferred.ofValue, invoke, ha, run_callFunc hk]
  · rintro e w'' ⟨v, s', rfl, rfl, h1, h2⟩
    exact ⟨v, rfl, h v s' h1 h2⟩

/-- The same for a call whose effect is told otherwise. -/
theorem L_calls' {k : FuncId} {args : Array Operand} {tys : Array TypeId} {vs : Array Value} {R : Ending → World → Prop} (hk : Callee P k) (ha : args.map (ev f) = vs)
    (hc : Calls P k vs w R) (hd : d < n) (h : ∀ e w', R e w' → ∃ v, e = .returned v ∧ L P n ops Q rest (upd f d v) w') :
    L P n ops Q (⟨some d, .call ⟨.value (.func k), args, tys⟩, ty, pos, aft, none⟩ :: rest) f w := by
  refine L_call rfl (fun k e => by cases e; exact hd) (w' := w) (k := k) (args := vs) ?_ hc h
  simp [execOp, resolve, ev, Deferred.ofValue, invoke, ha, run_callFunc hk]

/-- A call of a function value. -/
theorem L_callv {k : FuncId} {x : Operand} {cap : Array Value} {args : Array Operand} {tys : Array TypeId} {vs : Array Value} {Φ : Value → St → Prop} (hk : Callee P k)
    (hx : ev f x = .func (.func k) #[] cap) (ha : args.map (ev f) = vs)
    (hc : Calls P k (vs ++ cap) s.w (Ret s Φ)) (hd : d < n) (h : ∀ v s', Ext s s' → Φ v s' → L P n ops Q rest (upd f d v) s'.w) :
    L P n ops Q (⟨some d, .call ⟨.value x, args, tys⟩, ty, pos, aft, none⟩ :: rest) f s.w := by
  refine L_call rfl (fun k e => by cases e; exact hd) (w' := s.w) (k := k) (args := vs ++ cap) ?_ hc ?_
  · simp [execOp, resolve, hx, Deferred.ofValue, invoke, ha, run_callFunc hk]
  · rintro e w'' ⟨v, s', rfl, rfl, h1, h2⟩
    exact ⟨v, rfl, h v s' h1 h2⟩

/-- A function value of one argument that computes p, from here on. -/
def Fn1 (P : Program) (s : St) (v : Value) (p : α → Option β) : Prop :=
  ∃ k cap, v = .func (.func k) #[] cap ∧ Callee P k ∧
    ∀ s' vx x r, Le s s' → V s' vx x → p x = some r → Calls P k (#[vx] ++ cap) s'.w (Ret s' fun v s'' => V s'' v r)

theorem Fn1.mono {v : Value} {p : α → Option β} {s' : St} (h : Fn1 P s v p) (l : Le s s') : Fn1 P s' v p := by
  obtain ⟨k, cap, e, hk, h⟩ := h
  exact ⟨k, cap, e, hk, fun s'' vx x r l' => h s'' vx x r (l.trans l')⟩

def Fn0 (P : Program) (s : St) (v : Value) (p : Option β) : Prop :=
  ∃ k cap, v = .func (.func k) #[] cap ∧ Callee P k ∧ ∀ s' r, Le s s' → p = some r → Calls P k cap s'.w (Ret s' fun v s'' => V s'' v r)

theorem Fn0.mono {v : Value} {p : Option β} {s' : St} (h : Fn0 P s v p) (l : Le s s') : Fn0 P s' v p := by
  obtain ⟨k, cap, e, hk, h⟩ := h
  exact ⟨k, cap, e, hk, fun s'' r l' => h s'' r (l.trans l')⟩

theorem L_call1 {x y : Operand} {tys : Array TypeId} {fv vy : Value} {p : α → Option β} {a : α} {r : β} (hx : ev f x = fv) (hF : Fn1 P s fv p) (hy : ev f y = vy) (hV : V s vy a) (hr : p a = some r) (hd : d < n)
    (h : ∀ v s', Ext s s' → V s' v r → L P n ops Q rest (upd f d v) s'.w) :
    L P n ops Q (⟨some d, .call ⟨.value x, #[y], tys⟩, ty, pos, aft, none⟩ :: rest) f s.w := by
  obtain ⟨k, cap, rfl, hk, hc⟩ := hF
  exact L_callv hk hx (vs := #[vy]) (by simp [hy]) (hc s vy a r (Le.refl s) hV hr) hd h

theorem args0 : (#[] : Array Operand).map (ev f) = #[] := by simp
theorem args1 {a : Operand} {x : Value} (h : ev f a = x) : #[a].map (ev f) = #[x] := by simp [h]
theorem args2 {a b : Operand} {x y : Value} (h : ev f a = x) (k : ev f b = y) : #[a, b].map (ev f) = #[x, y] := by simp [h, k]
theorem args3 {a b c : Operand} {x y z : Value} (h : ev f a = x) (k : ev f b = y) (l : ev f c = z) : #[a, b, c].map (ev f) = #[x, y, z] := by simp [h, k, l]
/-! Fields. -/

/-- A field's part of a struct's cells. -/
def FieldOf (proj : α → β) (off : Nat) : Prop := ∀ s cs x, Rep.rel s cs x → ∃ ks, Rep.rel s ks (proj x) ∧ ∀ j (h : j < ks.length), cs[off + j]? = some ks[j]

/-- A field's place and size in the program's table. -/
def fieldAt (P : Program) (T : TypeId) (k : Nat) : Option (Nat × TypeId × Nat) :=
  match P.underlying T with
  | some (.struct fields) => match fields[k]? with
    | some fd => match P.info? fd.type with
      | some i => some (fd.offset, fd.type, i.size)
      | none => none
    | none => none
  | _ => none

theorem fieldAt_some {T : TypeId} {k off sz : Nat} {ft : TypeId} (h : fieldAt P T k = some (off, ft, sz)) :
    ∃ fields fd, P.underlying T = some (.struct fields) ∧ fields[k]? = some fd ∧ fd.offset = off ∧ fd.type = ft ∧ (P.info? ft).map (·.size) = some sz := by
  unfold fieldAt at h
  split at h
  · rename_i fields hu
    split at h
    · rename_i fd hf
      split at h
      · rename_i i hi
        simp only [Option.some.injEq, Prod.mk.injEq] at h
        obtain ⟨h1, h2, h3⟩ := h
        exact ⟨fields, fd, hu, hf, h1, h2, by rw [← h2, hi]; simp [h3]⟩
      · cases h
    · cases h
  · cases h

theorem AtRO.field {b o off : Nat} {cs ks : List Value} (h : AtRO s b o cs) (hk : ∀ j (h : j < ks.length), cs[off + j]? = some ks[j]) : AtRO s b (o + off) ks := by
  intro j hj
  obtain ⟨h1, h2⟩ := List.getElem?_eq_some_iff.1 (hk j hj)
  have := h (off + j) h1
  rw [h2, show o + (off + j) = o + off + j by omega] at this
  exact this

theorem L_fieldAddr {T : TypeId} {k off sz : Nat} {ft : TypeId} {x : Operand} {p : Value} {a : α} {proj : α → β} (hT : fieldAt P T k = some (off, ft, sz + 1)) (hF : FieldOf proj off) (hx : ev f x = p) (hP : Ptr s p a) (hd : d < n)
    (h : ∀ q, Ptr s q (proj a) → L P n ops Q rest (upd f d q) w) : L P n ops Q (⟨some d, .fieldAddr T x k, ty, pos, aft, none⟩ :: rest) f w := by
  obtain ⟨fields, fd, h1, h2, h3, h4, h5⟩ := fieldAt_some hT
  obtain ⟨b, o, cs, rfl, hrel, hat⟩ := hP
  obtain ⟨ks, hk1, hk2⟩ := hF _ _ _ hrel
  refine L_val (v := .pointer (some ⟨b, o + off, none⟩)) rfl (fun k e => by cases e; exact hd) ?_ (h _ ⟨b, _, ks, rfl, hk1, hat.field hk2⟩)
  subst h4
  simp [execOp, Instr.fieldAt, run_underlying h1, h2, Instr.sureAddr, hx, fieldPlace, run_sizeOf h5, h3, Addr.add_eq]

end
end Go.Arm
namespace Go.Arm
open Go Go.RowKit

/-- A block of the call's own that nothing claims. -/
structure Mut (s : St) (b : Nat) (E : TypeId) (cs : List Value) : Prop where
  heap : s.w.heap[b]? = some (.cells cs.toArray E (0, 0))
  g : s.g b = 0

theorem Mut.lt {s : St} {b : Nat} {E : TypeId} {cs : List Value} (h : Mut s b E cs) : b < s.w.heap.size := (Array.getElem?_eq_some_iff.1 h.heap).1
theorem Mut.tch {s s' : St} {b : Nat} {E : TypeId} {cs : List Value} {M : Nat → Prop} (h : Mut s b E cs) (t : Tch M s s') (hb : ¬ M b) : Mut s' b E cs :=
  ⟨(t.block b h.lt hb).trans h.heap, (t.g b h.lt hb).trans h.g⟩
theorem Mut.ext {s s' : St} {b : Nat} {E : TypeId} {cs : List Value} (h : Mut s b E cs) (t : Ext s s') : Mut s' b E cs := h.tch t (fun x => x)
theorem Mut.cell {s : St} {b : Nat} {E : TypeId} {cs : List Value} (h : Mut s b E cs) {o : Nat} : s.w.cell? ⟨b, o, none⟩ = cs[o]? := by
  simp [World.cell?, h.heap]

/-- Cells of such a block are set. -/
def splice (cs : List Value) (o : Nat) (ks : List Value) : List Value := cs.take o ++ ks ++ cs.drop (o + ks.length)

/-- What a store leaves. -/
theorem Mut.store {P : Program} {s : St} {b : Nat} {E : TypeId} {cs ks : List Value} (h : Mut s b E cs) (o : Nat) (hl : o + ks.length ≤ cs.length) (h1 : ∀ v ∈ ks, v.oneCell' = true) :
    ∃ s', (storeCells ⟨b, o, none⟩ ks 0).run P s.w = .ok () s'.w ∧ Tch (fun k => k = b) s s' ∧ Mut s' b E (splice cs o ks) := by
  have hst := run_storeCells_at P b o E ks 0 cs.toArray s.w h.heap (by simpa using hl) h1
  have ht := Tch.row (s := s) (cs := (splice cs o ks).toArray) (c := 0) h.heap (Nat.le_of_eq h.g) (fun x hx => by rw [h.g] at hx; omega) h.lt
  refine ⟨s.row b (splice cs o ks).toArray 0 h.lt, ?_, ht, setRow_heap s.w b _ _ E _ h.heap, if_pos rfl⟩
  rw [hst]
  simp [splice, St.row]

/-- Nothing writes it any more. -/
def St.claim (s : St) (b c : Nat) (hb : b < s.w.heap.size) : St := ⟨s.w, fun k => if k = b then c else s.g k, fun k hk => by rw [if_neg (by omega)]; exact s.ok k hk⟩

theorem Mut.claim {s : St} {b : Nat} {E : TypeId} {cs : List Value} (h : Mut s b E cs) (c : Nat) : ∃ s', s'.w = s.w ∧ Tch (fun k => k = b) s s' ∧ s'.g b = c ∧ ∀ k, k ≠ b → s'.g k = s.g k := by
  refine ⟨s.claim b c h.lt, rfl, ⟨rfl, rfl, rfl, Nat.le_refl _, fun _ _ _ => rfl, fun k _ nk => if_neg nk, fun k => ?_, fun _ _ _ => rfl, fun _ _ _ => rfl⟩, if_pos rfl, fun k nk => if_neg nk⟩
  show s.g k ≤ if k = b then c else s.g k
  split
  · subst_vars; rw [h.g]; exact Nat.zero_le _
  · exact Nat.le_refl _

/-- A changing variable that holds a datum: it may be read, and be claimed. -/
def Var {α : Type} [Rep α] (s : St) (b : Nat) (E : TypeId) (x : α) : Prop := ∃ cs, Mut s b E cs ∧ Rep.rel s cs x

theorem Var.tch {α : Type} [Rep α] {s s' : St} {b : Nat} {E : TypeId} {x : α} {M : Nat → Prop} (h : Var s b E x) (t : Tch M s s') (hb : ¬ M b) : Var s' b E x := by
  obtain ⟨cs, h1, h2⟩ := h; exact ⟨cs, h1.tch t hb, Rep.mono t.le h2⟩
theorem Var.ext {α : Type} [Rep α] {s s' : St} {b : Nat} {E : TypeId} {x : α} (h : Var s b E x) (t : Ext s s') : Var s' b E x := h.tch t (fun x => x)
theorem Var.lt {α : Type} [Rep α] {s : St} {b : Nat} {E : TypeId} {x : α} (h : Var s b E x) : b < s.w.heap.size := by obtain ⟨cs, h1, _⟩ := h; exact h1.lt

/-- It is claimed: a pointer to the datum; and it can be let go again. -/
theorem Var.ptr {α : Type} [Rep α] {s : St} {b : Nat} {E : TypeId} {x : α} (h : Var s b E x) : ∃ s', s'.w = s.w ∧ Tch (fun k => k = b) s s' ∧ Ptr s' (.pointer (some ⟨b, 0, none⟩)) x ∧ (∀ k, k ≠ b → s'.g k = s.g k) := by
  obtain ⟨cs, h1, h2⟩ := h
  obtain ⟨s', e, t, hg, ho⟩ := h1.claim cs.length
  refine ⟨s', e, t, ⟨b, 0, cs, rfl, Rep.mono t.le h2, fun j hj => ?_⟩, ho⟩
  rw [e, hg, Nat.zero_add]
  exact ⟨by rw [h1.cell]; simp [hj], hj⟩

/-- A call while some variables are claimed: what it returns is plain, and they are let go behind it. -/
theorem thaw {s s1 s2 : St} {M : Nat → Prop} (e1 : s1.w = s.w) (t1 : Tch M s s1) (hz : ∀ k, M k → s.g k = 0) (t2 : Ext s1 s2) :
    ∃ s3, s3.w = s2.w ∧ Ext s s3 := by
  classical
  have hsz : s1.w.heap.size = s.w.heap.size := by rw [e1]
  refine ⟨⟨s2.w, fun k => if M k then 0 else s2.g k, fun k hk => by
    show (if M k then 0 else s2.g k) = 0
    split
    · rfl
    · exact s2.ok k hk⟩, rfl, ?_⟩
  have hb : ∀ k, k < s.w.heap.size → s2.w.heap[k]? = s.w.heap[k]? := fun k hk => by rw [t2.block k (by omega) (fun x => x), e1]
  have hg : ∀ k, k < s.w.heap.size → (if M k then 0 else s2.g k) = s.g k := fun k hk => by
    split
    · rename_i hm; exact (hz k hm).symm
    · rename_i hm; rw [t2.g k (by omega) (fun x => x), t1.g k hk hm]
  refine ⟨by rw [t2.os, e1], by rw [t2.tape, e1], by rw [t2.output, e1], by have := t2.size; rw [hsz] at this; exact this, fun k hk _ => hb k hk, fun k hk _ => hg k hk, le_of_blocks hb (fun k hk => Nat.le_of_eq (hg k hk).symm)⟩

section
variable {P : Program} {n : Nat} {Q : Post} {f : Fr} {w : World} {ops : Array Oper} {rest : List Oper} {s : St}
variable {d : Nat} {ty : TypeId} {pos : String} {aft : Array Edge} {α β : Type} [Rep α] [Rep β]

theorem L_alloc {T : TypeId} {z : Value} {x : α} (hz : (P.info? T).map (·.zero) = some (some z)) (hrel : ∀ s, Rep.rel s z.cells.toList x) (hd : d < n)
    (h : ∀ s' b, Ext s s' → s.w.heap.size ≤ b → Var s' b T x → L P n ops Q rest (upd f d (.pointer (some ⟨b, 0, none⟩))) s'.w) :
    L P n ops Q (⟨some d, .alloc T, ty, pos, aft, none⟩ :: rest) f s.w := by
  refine L_val (v := .pointer (some ⟨s.w.heap.size, 0, none⟩)) rfl (fun k e => by cases e; exact hd) (w' := s.w.alloc (.cells z.cells T)) ?_ ?_
  · simp [execOp, run_alloc hz]
  · refine h (s.new (.cells z.cells T) 0) s.w.heap.size (Ext.new _ _ _) (Nat.le_refl _) ⟨z.cells.toList, ⟨?_, if_pos rfl⟩, hrel _⟩
    simpa [St.new] using heap_alloc_new s.w (.cells z.cells T)

theorem L_store {T E : TypeId} {x a : Operand} {v : Value} {b : Nat} {old y : α} (hT : Ty P T α) (ha : ev f a = .pointer (some ⟨b, 0, none⟩)) (hx : ev f x = v) (hV : V s v y) (hM : Var s b E old)
    (h : ∀ s', Tch (fun k => k = b) s s' → Var s' b E y → L P n ops Q rest f s'.w) :
    L P n ops Q (⟨none, .store T a x, ty, pos, aft, none⟩ :: rest) f s.w := by
  obtain ⟨ks, hrel, hcs, hlen, hpack⟩ := rel_cells hV
  obtain ⟨cs, hm, ho⟩ := hM
  have hol := Rep.len ho
  obtain ⟨s', hr, ht, hm'⟩ := hm.store (P := P) (ks := ks) 0 (by omega) (Rep.one hrel)
  refine L_skip rfl rfl (w' := s'.w) ?_ (h s' ht ⟨_, hm', ?_⟩)
  · have hsz : v.cells.size = Rep.size α := by rw [← hlen, ← hcs]; simp
    simp only [execOp, Instr.storeAt, Instr.sureAddr, ha, hx, storeVar, Sem.run_bind, Sem.run_pure, Result.andThen_ok, run_sizeOf hT.inf, hsz, hcs]
    simp [hr]
  · have : splice cs 0 ks = ks := by
      simp only [splice, List.take_zero, List.nil_append, Nat.zero_add]
      rw [List.drop_eq_nil_of_le (by omega), List.append_nil]
    rw [this]; exact Rep.mono ht.le hrel

/-- A field of a struct that is set. -/
def FieldSet (set : α → β → α) (off : Nat) : Prop := ∀ s cs ks x y, Rep.rel s cs x → Rep.rel s ks y → Rep.rel s (splice cs off ks) (set x y) ∧ off + ks.length ≤ cs.length

theorem run_fieldAddr {T : TypeId} {k off sz : Nat} {ft : TypeId} {x : Operand} {b o : Nat} (hT : fieldAt P T k = some (off, ft, sz + 1)) (hx : ev f x = .pointer (some ⟨b, o, none⟩)) :
    (execOp (ev f) ⟨some d, .fieldAddr T x k, ty, pos, aft, none⟩).run P w = .ok (.value (.pointer (some ⟨b, o + off, none⟩))) w := by
  obtain ⟨fields, fd, h1, h2, h3, h4, h5⟩ := fieldAt_some hT
  subst h4
  simp [execOp, Instr.fieldAt, run_underlying h1, h2, Instr.sureAddr, hx, fieldPlace, run_sizeOf h5, h3, Addr.add_eq]

theorem L_fieldAddr_var {T : TypeId} {k off sz : Nat} {ft : TypeId} {x : Operand} {b : Nat} (hT : fieldAt P T k = some (off, ft, sz + 1)) (hx : ev f x = .pointer (some ⟨b, 0, none⟩)) (hd : d < n)
    (h : L P n ops Q rest (upd f d (.pointer (some ⟨b, off, none⟩))) w) : L P n ops Q (⟨some d, .fieldAddr T x k, ty, pos, aft, none⟩ :: rest) f w :=
  L_val (v := .pointer (some ⟨b, off, none⟩)) rfl (fun k e => by cases e; exact hd) (by have := run_fieldAddr (P := P) (d := d) (ty := ty) (pos := pos) (aft := aft) (w := w) hT hx; rw [Nat.zero_add] at this; exact this) h

theorem L_store_field {T E : TypeId} {x a : Operand} {v : Value} {b off : Nat} {old : α} {y : β} {set : α → β → α} (hT : Ty P T β) (hF : FieldSet set off) (ha : ev f a = .pointer (some ⟨b, off, none⟩)) (hx : ev f x = v) (hV : V s v y) (hM : Var s b E old)
    (h : ∀ s', Tch (fun k => k = b) s s' → Var s' b E (set old y) → L P n ops Q rest f s'.w) :
    L P n ops Q (⟨none, .store T a x, ty, pos, aft, none⟩ :: rest) f s.w := by
  obtain ⟨ks, hrel, hcs, hlen, hpack⟩ := rel_cells hV
  obtain ⟨cs, hm, ho⟩ := hM
  obtain ⟨hset, hle⟩ := hF s cs ks old y ho hrel
  obtain ⟨s', hr, ht, hm'⟩ := hm.store (P := P) (ks := ks) off hle (Rep.one hrel)
  refine L_skip rfl rfl (w' := s'.w) ?_ (h s' ht ⟨_, hm', Rep.mono ht.le hset⟩)
  have hsz : v.cells.size = Rep.size β := by rw [← hlen, ← hcs]; simp
  simp only [execOp, Instr.storeAt, Instr.sureAddr, ha, hx, storeVar, Sem.run_bind, Sem.run_pure, Result.andThen_ok, run_sizeOf hT.inf, hsz, hcs]
  simp [hr]

/-- A load of a field of a changing variable. -/
theorem L_load_field {T E : TypeId} {x : Operand} {b off : Nat} {y : α} {proj : α → β} (hT : Ty P T β) (hF : FieldOf proj off) (hx : ev f x = .pointer (some ⟨b, off, none⟩)) (hM : Var s b E y) (hd : d < n)
    (h : ∀ v, V s v (proj y) → L P n ops Q rest (upd f d v) s.w) : L P n ops Q (⟨some d, .load T x, ty, pos, aft, none⟩ :: rest) f s.w := by
  obtain ⟨cs, hm, hr⟩ := hM
  obtain ⟨ks, hk, hks⟩ := hF _ _ _ hr
  obtain ⟨s', e, t, hg, ho⟩ := hm.claim cs.length
  have hat : AtRO s' b off ks := by
    intro j hj
    have h1 := hks j hj
    refine ⟨by rw [e, hm.cell]; exact h1, ?_⟩
    rw [hg]; exact (List.getElem?_eq_some_iff.1 h1).1
  have := run_load_ro (P := P) hT (Rep.mono t.le hk) hat
  rw [e] at this
  refine L_val (v := pack (Rep.agg β) ks) rfl (fun k e => by cases e; exact hd) ?_ (h _ ⟨ks, hk, rfl⟩)
  simp [execOp, Instr.loadAt, Instr.sureAddr, hx, this]

/-! The end of a function. -/
def Done (P : Program) (n : Nat) (fn : Func) (R : Ending → World → Prop) : Post := fun e f w =>
  (e = .ret ∨ e = .normal) ∧ ∀ a : Array Value, a.size = n → (∀ t, a.getD t undef = f t) → ∃ v, (results fn a).run P w = .ok v w ∧ R (.returned v) w

theorem done1 {fn : Func} {R : Ending → World → Prop} {e : Exit} {t : Nat} {v : Value} (he : e = .ret ∨ e = .normal) (hr : fn.results = #[.tmp t]) (hv : f t = v) (h : R (.returned v) w) : Done P n fn R e f w :=
  ⟨he, fun a _ ha => ⟨v, by rw [results_tmp hr, ha, hv], h⟩⟩
theorem done3 {fn : Func} {R : Ending → World → Prop} {e : Exit} {t u x : Nat} {v v' v'' : Value} (he : e = .ret ∨ e = .normal) (hr : fn.results = #[.tmp t, .tmp u, .tmp x]) (hv : f t = v) (hv' : f u = v') (hv'' : f x = v'')
    (h : R (.returned (.tuple #[v, v', v''])) w) : Done P n fn R e f w :=
  ⟨he, fun a _ ha => ⟨_, by simp [results, hr, ha, hv, hv', hv''], h⟩⟩

end
end Go.Arm
namespace Go.Arm
open Go Go.RowKit

section
variable {P : Program} {n : Nat} {Q : Post} {f : Fr} {w : World} {ops : Array Oper}

/-- Is j bound to come ahead of the operation? -/
def aheadOf (o : Oper) (j : Nat) : Bool := o.after.any fun e => Region.binds .any e && e.on == j

/-- Nothing that may have run ahead of operation i writes slot t. -/
def slotFree (ops : Array Oper) (i t : Nat) : Bool := ops.toList.all fun o => o.dst != some t || aheadOf o i

/-- The static conditions: each edge that binds leads to an earlier operation; no slot is written twice; all slots are there. -/
def drawOk (n : Nat) (ops : Array Oper) : Bool :=
  (List.range ops.size).all fun i => match ops[i]? with
    | none => true
    | some o => o.after.toList.all (fun e => !Region.binds .any e || decide (e.on < i)) &&
      (match o.dst with
       | none => false
       | some d => decide (d < n) && (List.range ops.size).all fun j => decide (j = i) || (match ops[j]? with | some o' => o'.dst != some d | none => true))

structure DrawSpec (n : Nat) (ops : Array Oper) : Prop where
  edge : ∀ (i : Nat) (o : Oper), ops[i]? = some o → ∀ e, e ∈ o.after.toList → Region.binds .any e = true → e.on < i
  dst : ∀ (i : Nat) (o : Oper), ops[i]? = some o → ∃ d, o.dst = some d ∧ d < n
  uniq : ∀ (i j : Nat) (o o' : Oper), ops[i]? = some o → ops[j]? = some o' → o.dst = o'.dst → i = j

theorem drawOk_spec (h : drawOk n ops = true) : DrawSpec n ops := by
  unfold drawOk at h
  rw [List.all_eq_true] at h
  have key : ∀ (i : Nat) (o : Oper), ops[i]? = some o → (∀ e, e ∈ o.after.toList → Region.binds .any e = true → e.on < i) ∧ ∃ d, o.dst = some d ∧ d < n ∧ ∀ j o', ops[j]? = some o' → j ≠ i → o'.dst ≠ some d := by
    intro i o ho
    have hi := (Array.getElem?_eq_some_iff.1 ho).1
    have := h i (by simpa using hi)
    rw [ho] at this
    simp only [Bool.and_eq_true, List.all_eq_true] at this
    refine ⟨fun e he hb => ?_, ?_⟩
    · have := this.1 e he
      simpa [hb] using this
    · cases hd : o.dst with
      | none => rw [hd] at this; simp at this
      | some d =>
        rw [hd] at this
        simp only [Bool.and_eq_true, decide_eq_true_eq, List.all_eq_true] at this
        refine ⟨d, rfl, this.2.1, fun j o' ho' hne => ?_⟩
        have hj := (Array.getElem?_eq_some_iff.1 ho').1
        have h2 := this.2.2 j (by simpa using hj)
        rw [ho'] at h2
        simpa [hne] using h2
  refine ⟨fun i o ho => (key i o ho).1, fun i o ho => ?_, fun i j o o' ho ho' he => ?_⟩
  · obtain ⟨d, h1, h2, _⟩ := (key i o ho).2; exact ⟨d, h1, h2⟩
  · obtain ⟨d, h1, h2, h3⟩ := (key i o ho).2
    rcases Nat.decEq j i with hne | hne
    · exact ((h3 j o' ho' hne) (he ▸ h1)).elim
    · exact hne.symm

/-- What one operation does: whatever its order, it gives a value of which Φ holds. -/
def StepAt (P : Program) (n : Nat) (ops : Array Oper) (o : Oper) (f : Fr) (s : St) (Φ : Value → St → Prop) : Prop :=
  ∀ (Q : Post), (∀ v s', Ext s s' → Φ v s' → Q .normal (updO f o.dst v) s'.w) → L P n ops Q [o] f s.w

theorem wpOp_of_L {o : Oper} {i : Nat} {a : Act} {K : Act → World → Prop} (hi : ops[i]? = some o) (ha : Fits n f a)
    (h : ∀ Q' : Post, (∀ f' w', (∀ a', Fits n f' a' → K a' w') → Q' .normal f' w') → L P n ops Q' [o] f w) : wpOp P ops (lift n Q) i K a w := by
  let Q' : Post := fun e f' w' => match e with | .normal => ∀ a', Fits n f' a' → K a' w' | e => Q e f' w'
  have hl := h Q' (fun f' w' hk => hk) a ha
  unfold wpList at hl
  unfold wpOp
  rw [hi]
  have hout : LetsOut (lift n Q') → LetsOut (lift n Q) := fun ⟨a, w, f, hf, q⟩ => ⟨a, w, f, hf, q⟩
  have conv : ∀ {a : Act} {w : World}, o.wp P a w (wpList P ops (lift n Q') []) (lift n Q') → o.wp P a w K (lift n Q) := by
    intro a w hh
    have hk : ∀ a w, wpList P ops (lift n Q') [] a w → K a w := fun a w ⟨f', hf', q⟩ => q a hf'
    unfold Oper.wp at hh ⊢
    generalize (execOp a.eval o).run P w = r at *
    cases r with
    | ok x w' =>
      cases x <;> simp only [Oper.upon] at hh ⊢ <;>
        first
          | exact hk _ _ hh
          | exact Calls.mono hh (fun e w'' he => by cases e <;> first | exact hk _ _ he | exact he | exact hout he)
          | exact Rows.mono hh (fun _ _ he => hk _ _ he)
    | halt x w' => cases x <;> simp only [Oper.upon] at hh ⊢ <;> exact hh
  simp only
  split
  · rename_i hw
    rw [if_pos hw] at hl
    exact hl.imp conv (fun ⟨h1, h2⟩ => ⟨h1, hout h2⟩)
  · rename_i hw
    rw [if_neg hw] at hl
    obtain ⟨f', hf', q⟩ := hl
    exact q _ hf'

theorem countFalse_set {l : Array Bool} {i : Nat} (h : l.getD i true = false) : ((l.setIfInBounds i true).toList.countP (fun b => !b)) + 1 = l.toList.countP (fun b => !b) := by
  have hi : i < l.size := by
    rcases Nat.lt_or_ge i l.size with h' | h'
    · exact h'
    · rw [Array.getD_eq_getD_getElem?, Array.getElem?_eq_none h'] at h; simp at h
  have he : l.toList[i]'(by simpa using hi) = false := by
    rw [Array.getD_eq_getD_getElem?, Array.getElem?_eq_getElem hi] at h
    simpa using h
  rw [Array.toList_setIfInBounds]
  exact aux _ i _ he
where
  aux : ∀ (m : List Bool) (i : Nat) (h : i < m.length), m[i] = false → (m.set i true).countP (fun b => !b) + 1 = m.countP (fun b => !b)
    | [], i, h, _ => by simp at h
    | b :: m, 0, _, he => by simp at he; subst he; simp
    | b :: m, i + 1, h, he => by
      simp only [List.set_cons_succ, List.countP_cons]
      have := aux m i (by simpa using h) (by simpa using he)
      omega

theorem W_draw {id : Nat} {s : St} (hm : P.follows .mixedOrders = true) (hok : drawOk n ops = true) (Φ : Nat → Value → St → Prop)
    (hmono : ∀ i v s s', Φ i v s → Ext s s' → Φ i v s')
    (step : ∀ (i : Nat) (o : Oper), ops[i]? = some o → ∀ f' s', Ext s s' → (∀ (j : Nat) (o' : Oper) (d : Nat), aheadOf o j = true → ops[j]? = some o' → o'.dst = some d → Φ j (f' d) s') →
      (∀ t, slotFree ops i t = true → f' t = f t) → StepAt P n ops o f' s' (Φ i))
    (fin : ∀ f' s', Ext s s' → (∀ (j : Nat) (o' : Oper) (d : Nat), ops[j]? = some o' → o'.dst = some d → Φ j (f' d) s') →
      (∀ t, (∀ (j : Nat) (o' : Oper), ops[j]? = some o' → o'.dst ≠ some t) → f' t = f t) → Q .normal f' s'.w) :
    W P n (.region id ops true) Q f s.w := by
  have sp := drawOk_spec hok
  intro a ha
  refine wp_region_any hm ?_
  -- the invariant
  have main : ∀ (fuel : Nat) (listed : Array Bool) (a : Act) (f' : Fr) (s' : St), listed.size = ops.size → listed.toList.countP (fun b => !b) = fuel → Fits n f' a → Ext s s' →
      (∀ (j : Nat) (o' : Oper) (d : Nat), listed.getD j false = true → ops[j]? = some o' → o'.dst = some d → Φ j (f' d) s') →
      (∀ (j : Nat) (o' : Oper), listed.getD j false = true → ops[j]? = some o' → ∀ e, e ∈ o'.after.toList → Region.binds .any e = true → listed.getD e.on false = true) →
      (∀ t, (∀ (j : Nat) (o' : Oper), listed.getD j false = true → ops[j]? = some o' → o'.dst ≠ some t) → f' t = f t) →
      wpAny P .any ops (lift n Q) fuel listed a s'.w := by
    intro fuel
    induction fuel with
    | zero =>
      intro listed a f' s' hsz hcnt hfit hE hΦ hcl hfr
      have hall : ∀ j, j < ops.size → listed.getD j false = true := by
        intro j hj
        have hj' : j < listed.size := by omega
        have := List.countP_eq_zero.1 hcnt (listed[j]) (by simp)
        rw [Array.getD_eq_getD_getElem?, Array.getElem?_eq_getElem hj']
        simpa using this
      refine ⟨?_, f', hfit, fin f' s' hE (fun j o' d hj => hΦ j o' d (hall j (Array.getElem?_eq_some_iff.1 hj).1) hj) (fun t ht => hfr t (fun j o' _ => ht j o'))⟩
      cases hr : Region.ready .any ops listed with
      | nil => rfl
      | cons i r =>
        have hi : i ∈ Region.ready .any ops listed := by rw [hr]; simp
        obtain ⟨h1, o, ho, _⟩ := mem_ready.1 hi
        have := hall i (Array.getElem?_eq_some_iff.1 ho).1
        have hi' : i < listed.size := by rw [hsz]; exact (Array.getElem?_eq_some_iff.1 ho).1
        rw [Array.getD_eq_getD_getElem?, Array.getElem?_eq_getElem hi'] at h1 this
        simp at h1 this
        rw [h1] at this; cases this
    | succ fuel ih =>
      intro listed a f' s' hsz hcnt hfit hE hΦ hcl hfr
      refine ⟨fun hr => ?_, fun i hi => ?_⟩
      · -- the least that is not listed would be ready
        exfalso
        have hex : ∃ j, j < listed.size ∧ listed.getD j true = false := by
          have hpos : 0 < listed.toList.countP (fun b => !b) := by omega
          obtain ⟨x, hx, hb⟩ := List.countP_pos_iff.1 hpos
          obtain ⟨j, hj, e⟩ := List.getElem_of_mem hx
          refine ⟨j, by simpa using hj, ?_⟩
          rw [Array.getD_eq_getD_getElem?, Array.getElem?_eq_getElem (by simpa using hj)]
          simp at hb e ⊢
          rw [e, hb]
        obtain ⟨j, ⟨hj, hf⟩, hmin⟩ := least_of hex
        have hjo : j < ops.size := by omega
        have : j ∈ Region.ready .any ops listed := mem_ready.2 ⟨hf, ops[j], Array.getElem?_eq_getElem hjo, fun e he hb => by
          have hlt := sp.edge j _ (Array.getElem?_eq_getElem hjo) e (by simpa using he) hb
          have hl' : e.on < listed.size := by omega
          cases hv : listed.getD e.on false with
          | true => rfl
          | false =>
            have : listed.getD e.on true = false := by
              rw [Array.getD_eq_getD_getElem?, Array.getElem?_eq_getElem hl'] at hv ⊢
              simpa using hv
            have := hmin e.on ⟨hl', this⟩
            omega⟩
        rw [hr] at this; simp at this
      · obtain ⟨hun, o, ho, haft⟩ := mem_ready.1 hi
        obtain ⟨d, hd, hdn⟩ := sp.dst i o ho
        have hil : i < listed.size := by rw [hsz]; exact (Array.getElem?_eq_some_iff.1 ho).1
        have hun' : listed.getD i false = false := by
          rw [Array.getD_eq_getD_getElem?, Array.getElem?_eq_getElem hil] at hun ⊢
          simpa using hun
        refine wpOp_of_L (f := f') ho hfit (fun Q' hQ' => ?_)
        refine step i o ho f' s' hE ?_ ?_ Q' ?_
        · intro j o' d' hj ho' hd'
          unfold aheadOf at hj
          rw [Array.any_eq_true'] at hj
          obtain ⟨e, he, hb⟩ := hj
          simp only [Bool.and_eq_true, beq_iff_eq] at hb
          exact hΦ j o' d' (hb.2 ▸ haft e he hb.1) ho' hd'
        · intro t ht
          refine hfr t (fun j o' hj ho' hdt => ?_)
          unfold slotFree at ht
          rw [List.all_eq_true] at ht
          have := ht o' (by obtain ⟨h1, h2⟩ := Array.getElem?_eq_some_iff.1 ho'; rw [← h2]; simp)
          rw [hdt] at this
          simp only [bne_self_eq_false, Bool.false_or] at this
          unfold aheadOf at this
          rw [Array.any_eq_true'] at this
          obtain ⟨e, he, hb⟩ := this
          simp only [Bool.and_eq_true, beq_iff_eq] at hb
          have h2 := hcl j o' hj ho' e (by simpa using he) hb.1
          rw [hb.2, hun'] at h2; cases h2
        · intro v s'' hE' hv
          refine hQ' _ _ (fun a' ha' => ?_)
          rw [hd] at ha'
          have hgd : ∀ j, (listed.setIfInBounds i true).getD j false = true → j = i ∨ listed.getD j false = true := by
            intro j hj
            by_cases e : i = j
            · exact .inl e.symm
            · right
              rw [getD_set_ne false e] at hj; exact hj
          refine ih _ a' _ s'' (by simpa using hsz) ?_ ha' (hE.trans hE') ?_ ?_ ?_
          · have := countFalse_set hun; omega
          · intro j o' d' hj ho' hd'
            rcases hgd j hj with rfl | hl
            · rw [ho] at ho'; cases ho'
              rw [hd] at hd'; cases hd'
              simpa [updO, upd] using hv
            · have hne : d' ≠ d := by
                intro e
                have := sp.uniq j i o' o ho' ho (by rw [hd', hd, e])
                subst this; rw [hun'] at hl; cases hl
              have : updO f' (some d) v d' = f' d' := by simp [updO, upd, hne]
              rw [this]
              exact hmono _ _ _ _ (hΦ j o' d' hl ho' hd') hE'
          · intro j o' hj ho' e he hb
            rcases hgd j hj with rfl | hj
            · rw [ho] at ho'; cases ho'
              exact getD_set_true (haft e (by simpa using he) hb)
            · exact getD_set_true (hcl j o' hj ho' e he hb)
          · intro t ht
            have hne : t ≠ d := by
              intro e
              refine ht i o ?_ ho (by rw [hd, e])
              rw [Array.getD_eq_getD_getElem?, Array.getElem?_setIfInBounds]
              simp [hil]
            have : updO f' (some d) v t = f' t := by simp [updO, upd, hne]
            rw [this]
            exact hfr t (fun j o' hj => ht j o' (getD_set_true hj))
  have hnone : ∀ j, (Array.replicate ops.size false).getD j false = true → False := by
    intro j hj
    rw [Array.getD_eq_getD_getElem?, Array.getElem?_replicate] at hj
    split at hj <;> simp at hj
  have h0 := main ops.size (Array.replicate ops.size false) a f s.drew (by simp) (by simp [List.countP_replicate]) ha (Ext.drew s) (fun j o' d hj => (hnone j hj).elim) (fun j o' hj => (hnone j hj).elim) (fun _ _ => rfl)
  exact h0
end
end Go.Arm
namespace Go.Arm
open Go Go.RowKit

def chk {α : Type} (p : Prop) [Decidable p] (k : Option α) : Option α := if p then k else none
theorem chk_some {α : Type} {p : Prop} [Decidable p] {k : Option α} {r : α} (h : chk p k = some r) : p ∧ k = some r := by
  unfold chk at h
  split at h
  · exact ⟨‹_›, h⟩
  · cases h
theorem ite_t {α : Type} {b : Bool} {x y : Option α} {r : α} (h : b = true) (hr : (if b = true then x else y) = some r) : x = some r := by rw [if_pos h] at hr; exact hr
theorem ite_f {α : Type} {b : Bool} {x y : Option α} {r : α} (h : b = false) (hr : (if b = true then x else y) = some r) : y = some r := by rw [if_neg (by simp [h])] at hr; exact hr

section
variable {Q : Post} {f : Fr} {w : World} {nx : Fr → World → Prop} {k id : Nat}
theorem then_n (h : nx f w) : Then nx Q .normal f w := h
theorem then_x (h : Q (.exit k) f w) : Then nx Q (.exit k) f w := h
theorem then_r (h : Q .ret f w) : Then nx Q .ret f w := h
theorem block_n (h : Q .normal f w) : InBlock id Q .normal f w := h
theorem block_r (h : Q .ret f w) : InBlock id Q .ret f w := h
theorem block_here (h : Q .normal f w) : InBlock id Q (.exit id) f w := by simp only [InBlock, if_true]; exact h
end

section
variable {P : Program} {n : Nat} {Q : Post} {f : Fr} {w : World} {ops : Array Oper} {rest : List Oper} {s : St}
variable {d : Nat} {ty : TypeId} {pos : String} {aft : Array Edge} {α β : Type} [Rep α] [Rep β]

theorem Calls_of {k : FuncId} {fn : Func} {c : Code} {args : List Value} {R : Ending → World → Prop}
    (hf : P.funcs[k]? = some fn) (hb : fn.body = some c) (hn : fn.ntmps = n) (hl : args.length ≤ n)
    (h : W P n c (Done P n fn R) (entry args) w) : Calls P k args.toArray w R := Calls_of_W hf hb hn hl h

theorem L_pick_t {c x y : Operand} {b : Bool} {v : Value} (hc : ev f c = .bool b) (hb : b = true) (hv : ev f x = v) (hd : d < n)
    (h : L P n ops Q rest (upd f d v) w) : L P n ops Q (⟨some d, .pick c x y, ty, pos, aft, none⟩ :: rest) f w :=
  L_pick hc (by rw [hb]; exact hv) hd h
theorem L_pick_f {c x y : Operand} {b : Bool} {v : Value} (hc : ev f c = .bool b) (hb : b = false) (hv : ev f y = v) (hd : d < n)
    (h : L P n ops Q rest (upd f d v) w) : L P n ops Q (⟨some d, .pick c x y, ty, pos, aft, none⟩ :: rest) f w :=
  L_pick hc (by rw [hb]; exact hv) hd h

/-- A guard that says yes, or no, by a test that is known. -/
theorem L_gt {op : Op} {dst : Option Nat} {j : Nat} {b c : Bool} {e : Nat} (hj : (ops[j]?).bind (·.dst) = some e) (he : e < n) (hv : f e = .bool c) (hc : c = b)
    (h : L P n ops Q (⟨dst, op, ty, pos, aft, none⟩ :: rest) f w) : L P n ops Q (⟨dst, op, ty, pos, aft, some (j, b)⟩ :: rest) f w :=
  L_guard (o := ⟨dst, op, ty, pos, aft, some (j, b)⟩) rfl hj he (by rw [hv, hc]) h
theorem L_gf {op : Op} {j : Nat} {b c : Bool} {e : Nat} (hj : (ops[j]?).bind (·.dst) = some e) (he : e < n) (hv : f e = .bool c) (hc : c = !b) (hd : d < n)
    (h : L P n ops Q rest (upd f d undef) w) : L P n ops Q (⟨some d, op, ty, pos, aft, some (j, b)⟩ :: rest) f w :=
  L_unguard (o := ⟨some d, op, ty, pos, aft, some (j, b)⟩) rfl hj he hv (by rw [hc]; cases b <;> rfl) (fun k e => by cases e; exact hd) h
theorem L_gu {op : Op} {j : Nat} {b : Bool} {e : Nat} (hj : (ops[j]?).bind (·.dst) = some e) (hv : f e = undef) (hd : d < n)
    (h : L P n ops Q rest (upd f d undef) w) : L P n ops Q (⟨some d, op, ty, pos, aft, some (j, b)⟩ :: rest) f w :=
  L_unguard' (o := ⟨some d, op, ty, pos, aft, some (j, b)⟩) rfl hj hv (fun k e => by cases e; exact hd) h

/-- A parameter or a value that is put into a block of its own. -/
theorem L_box {T : TypeId} {x : Operand} {v : Value} {y : α} (hx : ev f x = v) (hV : V s v y) (hd : d < n)
    (h : ∀ s' p, Ext s s' → Ptr s' p y → L P n ops Q rest (upd f d p) s'.w) :
    L P n ops Q (⟨some d, .box T x, ty, pos, aft, none⟩ :: rest) f s.w := by
  obtain ⟨cs, hrel, hcs, hlen, hpack⟩ := rel_cells hV
  refine L_val (v := .pointer (some ⟨s.w.heap.size, 0, none⟩)) rfl (fun k e => by cases e; exact hd) (w' := s.w.alloc (.cells cs.toArray T)) ?_ ?_
  · have : v.cells = cs.toArray := by rw [← hcs]
    simp [execOp, Instr.box, hx, newVar, newRow, this]
  · have hE := Ext.new s (.cells cs.toArray T) (Rep.size α)
    refine h (s.new (.cells cs.toArray T) (Rep.size α)) _ hE ⟨s.w.heap.size, 0, cs, rfl, Rep.mono hE.le hrel, ?_⟩
    exact atRO_new s cs T _ 0 (Rep.size α) cs (by rw [List.drop_zero, List.take_of_length_le (by omega)]) (by omega)

/-- The same as a changing variable. -/
theorem L_boxv {T : TypeId} {x : Operand} {v : Value} {y : α} (hx : ev f x = v) (hV : V s v y) (hd : d < n)
    (h : ∀ s' b, Ext s s' → s.w.heap.size ≤ b → Var s' b T y → L P n ops Q rest (upd f d (.pointer (some ⟨b, 0, none⟩))) s'.w) :
    L P n ops Q (⟨some d, .box T x, ty, pos, aft, none⟩ :: rest) f s.w := by
  obtain ⟨cs, hrel, hcs, hlen, hpack⟩ := rel_cells hV
  refine L_val (v := .pointer (some ⟨s.w.heap.size, 0, none⟩)) rfl (fun k e => by cases e; exact hd) (w' := s.w.alloc (.cells cs.toArray T)) ?_ ?_
  · have : v.cells = cs.toArray := by rw [← hcs]
    simp [execOp, Instr.box, hx, newVar, newRow, this]
  · have hE := Ext.new s (.cells cs.toArray T) 0
    exact h (s.new (.cells cs.toArray T) 0) s.w.heap.size hE (Nat.le_refl _) ⟨cs, ⟨heap_alloc_new s.w _, if_pos rfl⟩, Rep.mono hE.le hrel⟩

theorem Grows.apart {B B' : Nat} {E E' : TypeId} {v v' u : Value} {zs : List α} {us : List β} {s' : St} (g : Grows s B E v v' zs s') (h : Bld s B' E' u us) (ha : ∀ b, Arm.own u b → ¬ Arm.own v b) : ∀ b, Arm.own u b → ¬ Arm.own v' b := by
  intro b hu hv
  rcases g.own b hv with h1 | h1
  · exact ha b hu h1
  · have := (h.lt hu).2; omega
theorem Grows.ext {B : Nat} {E : TypeId} {v v' : Value} {zs : List α} {s0 s' : St} (g : Grows s B E v v' zs s') {xs : List α} (h : Bld s B E v xs) (hE : Ext s0 s) (hB : s0.w.heap.size ≤ B) : Ext s0 s' :=
  Tch.trans hE g.tch (fun _ hb => .inr (Nat.le_trans hB (h.lt hb).1))
theorem own_nil {b : Nat} : ¬ own (.slice none 0 0) b := by intro h; cases h

def VT2 (s : St) (v : Value) (r : α × β) : Prop := ∃ a b, v = .tuple #[a, b] ∧ V s a r.1 ∧ V s b r.2
end
end Go.Arm
