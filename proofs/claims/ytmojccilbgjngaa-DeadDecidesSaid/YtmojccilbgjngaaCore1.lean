/- The control part of the core: frames as functions, the weakest precondition of code over them. -/
import Derived.WalkKit
namespace Go.Arm
open Go

abbrev Fr := Nat → Value
def get (a : Act) : Fr := fun t => a.tmps.getD t undef
def upd (f : Fr) (d : Nat) (v : Value) : Fr := fun t => if t = d then v else f t
def updO (f : Fr) (d : Option Nat) (v : Value) : Fr := match d with | some d => upd f d v | none => f
def ev (f : Fr) : Operand → Value
 | .tmp t => f t
 | .const v => v
 | .global g => .pointer (some ⟨g, 0, none⟩)
 | .func k => .func (.func k) #[] #[]

structure Fits (n : Nat) (f : Fr) (a : Act) : Prop where
 size : a.tmps.size = n
 defers : a.defers = []
 get : get a = f

theorem Fits.ev {n : Nat} {f : Fr} {a : Act} (h : Fits n f a) : a.eval = ev f := by
 funext x
 cases x with
 | tmp t => simp only [Act.eval, Arm.ev, ← h.get, Arm.get]
 | const v => rfl
 | global g => rfl
 | func k => rfl

theorem Fits.put {n : Nat} {f : Fr} {a : Act} (h : Fits n f a) {d : Option Nat} (hd : ∀ k, d = some k → k < n) (v : Value) :
  Fits n (updO f d v) (a.put d v) := by
 cases d with
 | none => exact h
 | some d =>
  have hd := hd d rfl
  refine ⟨by simp [Act.put, h.size], by simp [Act.put, h.defers], ?_⟩
  funext t
  simp only [Arm.get, Act.put, updO, upd, ← h.get]
  by_cases e : t = d
  ·subst e; simp [h.size, hd]
  ·rw [if_neg e]
   simp only [Array.getD_eq_getD_getElem?, Array.getElem?_setIfInBounds]
   rw [if_neg (fun x => e x.symm)]

abbrev Post := Exit → Fr → World → Prop
def lift (n : Nat) (Q : Post) : Exit → Act → World → Prop := fun e a w => ∃ f, Fits n f a ∧ Q e f w

def W (P : Program) (n : Nat) (c : Code) (Q : Post) (f : Fr) (w : World) : Prop :=
 ∀ a, Fits n f a → c.wp P (lift n Q) a w

section
variable {P : Program} {n : Nat} {Q Q' : Post} {f : Fr} {w : World}

theorem W_mono {c : Code} (h : W P n c Q f w) (hq : ∀ e f w, Q e f w → Q' e f w) : W P n c Q' f w :=
 fun a ha => wp_mono (h a ha) fun _ _ _ ⟨f, hf, q⟩ => ⟨f, hf, hq _ _ _ q⟩

def Then (next : Fr → World → Prop) (Q : Post) : Post
 | .normal, f, w => next f w
 | e, f, w => Q e f w

theorem W_seq {x y : Code} (h : W P n x (Then (fun f w => W P n y Q f w) Q) f w) : W P n (.seq x y) Q f w := by
 intro a ha
 refine wp_seq (wp_mono (h a ha) ?_)
 rintro e a w ⟨f, hf, q⟩
 cases e with
 | normal => exact q a hf
 | _ => exact ⟨f, hf, q⟩

theorem W_seq_cut {x y : Code} (J : Fr → World → Prop) (h : W P n x (Then J Q) f w) (k : ∀ f w, J f w → W P n y Q f w) :
  W P n (.seq x y) Q f w :=
 W_seq (W_mono h fun e f w q => by cases e with | normal => exact k _ _ q | _ => exact q)

theorem W_skip (h : Q .normal f w) : W P n .skip Q f w := fun _ ha => wp_skip ⟨f, ha, h⟩
theorem W_label {l : Nat} (h : Q .normal f w) : W P n (.label l) Q f w := fun _ ha => wp_label ⟨f, ha, h⟩
theorem W_exit {id : Nat} (h : Q (.exit id) f w) : W P n (.exit id) Q f w := fun _ ha => wp_exit ⟨f, ha, h⟩
theorem W_ret (h : Q .ret f w) : W P n .ret Q f w := fun _ ha => wp_ret ⟨f, ha, h⟩

theorem W_cond {c : Operand} {x y : Code} (b : Bool) (hc : ev f c = .bool b) (ht : b = true → W P n x Q f w) (hf : b = false → W P n y Q f w) :
  W P n (.cond c x y) Q f w := by
 intro a ha
 refine wp_cond_split (t := b) ?_ (fun e => ht e a ha) (fun e => hf e a ha)
 rw [ha.ev]; exact hc

def InBlock (id : Nat) (Q : Post) : Post
 | .exit k, f, w => if k = id then Q .normal f w else Q (.exit k) f w
 | e, f, w => Q e f w

theorem W_block {id : Nat} {c : Code} (h : W P n c (InBlock id Q) f w) : W P n (.block id c) Q f w := by
 intro a ha
 refine wp_block (wp_mono (h a ha) ?_)
 rintro e a w ⟨f, hf, q⟩
 cases e with
 | exit k =>
  simp only [InBlock, Exit.inBlock] at q ⊢
  split
  ·rw [if_pos ‹_›] at q; exact ⟨f, hf, q⟩
  ·rw [if_neg ‹_›] at q; exact ⟨f, hf, q⟩
 | _ => exact ⟨f, hf, q⟩

theorem least_of {p : Nat → Prop} (h : ∃ m, p m) : ∃ m, p m ∧ ∀ k, p k → m ≤ k := by
 obtain ⟨m, hm⟩ := h
 induction m using Nat.strongRecOn with
 | _ m ih =>
  by_cases hx : ∃ k, k < m ∧ p k
  ·obtain ⟨k, hk, hp⟩ := hx; exact ih k hk hp
  ·exact ⟨m, hm, fun k hp => by
    rcases Nat.lt_or_ge k m with h | h
    ·exact (hx ⟨k, h, hp⟩).elim
    ·exact h⟩

theorem W_loop {c : Code} (J : Nat → Fr → World → Prop) (m : Nat) (h0 : J m f w)
  (round : ∀ m f w, J m f w → W P n c (Then (fun f' w' => ∃ m', m' < m ∧ J m' f' w') Q) f w) : W P n (.loop c) Q f w := by
 intro a ha
 classical
 let p : Act → World → Nat → Prop := fun a w m => ∃ f, Fits n f a ∧ J m f w
 let I : Act → World → Prop := fun a w => ∃ m, p a w m
 let μ : Act → World → Nat := fun a w => if h : ∃ m, p a w m then Classical.choose (least_of h) else 0
 have hμ : ∀ a w (h : I a w), p a w (μ a w) ∧ ∀ k, p a w k → μ a w ≤ k := by
  intro a w h
  have e : μ a w = Classical.choose (least_of h) := dif_pos h
  rw [e]; exact Classical.choose_spec (least_of h)
 refine wp_loop I μ ⟨m, f, ha, h0⟩ ?_
 intro a w hI
 obtain ⟨⟨f, hf, hJ⟩, _⟩ := hμ a w hI
 refine wp_mono (round _ f w hJ a hf) ?_
 rintro e a' w' ⟨f', hf', q⟩
 cases e with
 | normal =>
  obtain ⟨m', hlt, hJ'⟩ := q
  have hp : p a' w' m' := ⟨f', hf', hJ'⟩
  exact ⟨⟨m', hp⟩, Nat.lt_of_le_of_lt ((hμ a' w' ⟨m', hp⟩).2 m' hp) hlt⟩
 | _ => exact ⟨f', hf', q⟩

/-! Lists of operations. -/

def L (P : Program) (n : Nat) (ops : Array Oper) (Q : Post) (l : List Oper) (f : Fr) (w : World) : Prop :=
 ∀ a, Fits n f a → wpList P ops (lift n Q) l a w

theorem W_region {id : Nat} {l : List Oper} (h : L P n l.toArray Q l f w) : W P n (.region id l.toArray false) Q f w :=
 fun a ha => wp_region_lit (h a ha)

variable {ops : Array Oper} {rest : List Oper} {o : Oper}

theorem L_nil (h : Q .normal f w) : L P n ops Q [] f w := fun _ ha => ⟨f, ha, h⟩

theorem L_val {v : Value} {w' : World} (hg : o.guard = none) (hd : ∀ k, o.dst = some k → k < n)
  (hr : (execOp (ev f) o).run P w = .ok (.value v) w') (h : L P n ops Q rest (updO f o.dst v) w') : L P n ops Q (o :: rest) f w := by
 intro a ha
 refine wpList_plain hg fun K hK => ?_
 unfold Oper.wp
 rw [ha.ev, hr]
 exact hK _ _ (h _ (ha.put hd v))

theorem L_skip {w' : World} (hg : o.guard = none) (hd : o.dst = none)
  (hr : (execOp (ev f) o).run P w = .ok .skip w') (h : L P n ops Q rest f w') : L P n ops Q (o :: rest) f w := by
 intro a ha
 refine wpList_plain hg fun K hK => ?_
 unfold Oper.wp
 rw [ha.ev, hr]
 refine hK _ _ (h _ ?_)
 rw [hd]; exact ha

theorem L_call {k : FuncId} {args : Array Value} {w' : World} {R : Ending → World → Prop} (hg : o.guard = none) (hd : ∀ k, o.dst = some k → k < n)
  (hr : (execOp (ev f) o).run P w = .ok (.enter k args) w') (hc : Calls P k args w' R)
  (h : ∀ e w'', R e w'' → ∃ v, e = .returned v ∧ L P n ops Q rest (updO f o.dst v) w'') : L P n ops Q (o :: rest) f w := by
 intro a ha
 refine wpList_plain hg fun K hK => ?_
 unfold Oper.wp
 rw [ha.ev, hr]
 refine hc.mono ?_
 intro e w'' he
 obtain ⟨v, rfl, hl⟩ := h e w'' he
 exact hK _ _ (hl _ (ha.put hd v))

theorem yielded_get {a : Act} (ha : Fits n f a) {j d : Nat} (hj : (ops[j]?).bind (·.dst) = some d) (hd : d < n) {b : Bool} (hv : f d = .bool b) :
  yielded ops a.tmps j = some b := by
 unfold yielded
 rw [hj]
 have : a.tmps[d]? = some (.bool b) := by
  have h1 : a.tmps.getD d undef = .bool b := by have := congrFun ha.get d; rw [hv] at this; exact this
  rw [Array.getD_eq_getD_getElem?] at h1
  have h2 : d < a.tmps.size := by rw [ha.size]; exact hd
  rw [Array.getElem?_eq_getElem h2] at h1 ⊢
  simpa using h1
 simp [this]

theorem yielded_undef {a : Act} (ha : Fits n f a) {j d : Nat} (hj : (ops[j]?).bind (·.dst) = some d) (hv : f d = undef) :
  yielded ops a.tmps j = none := by
 unfold yielded
 rw [hj]
 have h1 : a.tmps.getD d undef = undef := by have := congrFun ha.get d; rw [hv] at this; exact this
 rw [Array.getD_eq_getD_getElem?] at h1
 cases h : a.tmps[d]? with
 | none => simp [h]
 | some x => simp [h] at h1; subst h1; simp [h, undef]

theorem L_guard {j : Nat} {b : Bool} {d : Nat} (hg : o.guard = some (j, b)) (hj : (ops[j]?).bind (·.dst) = some d) (hd : d < n) (hv : f d = .bool b)
  (h : L P n ops Q ({ o with guard := none } :: rest) f w) : L P n ops Q (o :: rest) f w := by
 intro a ha
 have := h a ha
 unfold wpList at this ⊢
 have hw : Region.wanted o (yielded ops a.tmps) = true := by
  simp [Region.wanted, hg, yielded_get ha hj hd hv]
 rw [if_pos hw]
 rw [if_pos (by simp [Region.wanted])] at this
 exact this

theorem L_unguard {j : Nat} {b c : Bool} {d : Nat} (hg : o.guard = some (j, b)) (hj : (ops[j]?).bind (·.dst) = some d) (hd : d < n) (hv : f d = .bool c)
  (hbc : (c == b) = false) (hk : ∀ k, o.dst = some k → k < n)
  (h : L P n ops Q rest (updO f o.dst undef) w) : L P n ops Q (o :: rest) f w := by
 intro a ha
 unfold wpList
 have hw : Region.wanted o (yielded ops a.tmps) = false := by
  simp only [Region.wanted, hg, yielded_get ha hj hd hv]
  cases b <;> cases c <;> simp_all
 rw [if_neg (by simp [hw])]
 exact h _ (ha.put hk undef)

theorem L_unguard' {j : Nat} {b : Bool} {d : Nat} (hg : o.guard = some (j, b)) (hj : (ops[j]?).bind (·.dst) = some d) (hv : f d = undef)
  (hk : ∀ k, o.dst = some k → k < n)
  (h : L P n ops Q rest (updO f o.dst undef) w) : L P n ops Q (o :: rest) f w := by
 intro a ha
 unfold wpList
 have hw : Region.wanted o (yielded ops a.tmps) = false := by
  simp [Region.wanted, hg, yielded_undef ha hj hv]
 rw [if_neg (by simp [hw])]
 exact h _ (ha.put hk undef)
end

/-! A call of a function, by its code. -/
def entry (args : List Value) : Fr := fun t => args.getD t undef

theorem Calls_of_W {P : Program} {k : FuncId} {fn : Func} {c : Code} {args : List Value} {w : World} {R : Ending → World → Prop} {n : Nat}
  (hf : P.funcs[k]? = some fn) (hb : fn.body = some c) (hn : fn.ntmps = n) (hl : args.length ≤ n)
  (h : W P n c (fun e f w => (e = .ret ∨ e = .normal) ∧ ∀ a : Array Value, a.size = n → (∀ t, a.getD t undef = f t) → ∃ v, (results fn a).run P w = .ok v w ∧ R (.returned v) w) (entry args) w) :
  Calls P k args.toArray w R := by
 refine calls_of_wp hf hb ?_
 have hfit : Fits n (entry args) { tmps := args.toArray ++ Array.replicate (fn.ntmps - args.toArray.size) undef, defers := [] } := by
  refine ⟨by simp [hn]; omega, rfl, ?_⟩
  funext t
  simp only [get, entry, Array.getD_eq_getD_getElem?, List.getD_eq_getElem?_getD]
  by_cases ht : t < args.length
  ·rw [Array.getElem?_append_left (by simpa using ht)]; simp
  ·rw [Array.getElem?_append_right (by simpa using ht)]
   rw [List.getElem?_eq_none (by omega)]
   simp only [Array.getElem?_replicate]
   split <;> rfl
 refine wp_mono (h _ hfit) ?_
 rintro e a w ⟨f, ha, he, hq⟩
 obtain ⟨v, h1, h2⟩ := hq a.tmps ha.size (fun t => by rw [← ha.get]; rfl)
 rcases he with rfl | rfl
 ·exact ⟨ha.defers, v, h1, h2⟩
 ·exact ⟨ha.defers, v, h1, h2⟩

end Go.Arm
