/- The closed evaluator, part 1: tries; how abstract values stand for values. -/
import Derived.WalkKit
namespace Go.X
noncomputable section
open Go Go.RowKit

/-- A trie keyed by numbers. -/
inductive T (α : Type) where
  | e : T α
  | n (l : T α) (v : Option α) (r : T α) : T α
namespace T
variable {α : Type}
def get (t : T α) : Nat → Option α := T.rec (motive := fun _ => Nat → Option α) (fun _ => none)
  (fun _ v _ gl gr k => Bool.rec (Bool.rec (gl (Nat.sub (Nat.div k (nat_lit 2)) (nat_lit 1))) (gr (Nat.div k (nat_lit 2))) (Nat.beq (Nat.mod k (nat_lit 2)) (nat_lit 1))) v (Nat.beq k (nat_lit 0))) t
def put (d : Nat) : T α → Nat → Option α → T α := Nat.rec (motive := fun _ => T α → Nat → Option α → T α)
  (fun t _ x => T.rec (motive := fun _ => T α) (.n .e x .e) (fun l _ r _ _ => .n l x r) t)
  (fun _ p t k x => T.rec (motive := fun _ => T α)
    (Bool.rec (Bool.rec (.n (p .e (Nat.sub (Nat.div k (nat_lit 2)) (nat_lit 1)) x) none .e) (.n .e none (p .e (Nat.div k (nat_lit 2)) x)) (Nat.beq (Nat.mod k (nat_lit 2)) (nat_lit 1))) (.n .e x .e) (Nat.beq k (nat_lit 0)))
    (fun l v r _ _ => Bool.rec (Bool.rec (.n (p l (Nat.sub (Nat.div k (nat_lit 2)) (nat_lit 1)) x) v r) (.n l v (p r (Nat.div k (nat_lit 2)) x)) (Nat.beq (Nat.mod k (nat_lit 2)) (nat_lit 1))) (.n l x r) (Nat.beq k (nat_lit 0))) t) d
theorem beq_ite {β : Type} (a b : Nat) (x y : β) : (Bool.rec (motive := fun _ => β) y x (Nat.beq a b) : β) = if a = b then x else y := by
  by_cases h : a = b
  · subst h; rw [if_pos rfl, Nat.beq_refl]
  · rw [if_neg h]
    cases hq : Nat.beq a b with
    | true => exact (h (Nat.eq_of_beq_eq_true hq)).elim
    | false => rfl
theorem get_e (k : Nat) : (T.e : T α).get k = none := rfl
theorem get_n (l r : T α) (v : Option α) (k : Nat) : (T.n l v r).get k = if k = 0 then v else if k % 2 = 1 then get r (k / 2) else get l (k / 2 - 1) := by
  show Bool.rec (motive := fun _ => Option α) (Bool.rec (motive := fun _ => Option α) (get l (k / 2 - 1)) (get r (k / 2)) (Nat.beq (k % 2) 1)) v (Nat.beq k 0) = _
  rw [beq_ite, beq_ite]
def kids : T α → T α × Option α × T α
  | .e => (.e, none, .e)
  | .n l v r => (l, v, r)
theorem get_kids (t : T α) (k : Nat) : t.get k = if k = 0 then t.kids.2.1 else if k % 2 = 1 then t.kids.2.2.get (k / 2) else t.kids.1.get (k / 2 - 1) := by
  cases t with
  | e => simp [get_e, kids]
  | n l v r => rw [get_n]; rfl
theorem put_kids (d : Nat) (t : T α) (k : Nat) (x : Option α) : put (d + 1) t k x = if k = 0 then .n t.kids.1 x t.kids.2.2 else if k % 2 = 1 then .n t.kids.1 t.kids.2.1 (put d t.kids.2.2 (k / 2) x) else .n (put d t.kids.1 (k / 2 - 1) x) t.kids.2.1 t.kids.2.2 := by
  cases t with
  | e =>
    show Bool.rec (motive := fun _ => T α) (Bool.rec (motive := fun _ => T α) (.n (put d .e (k / 2 - 1) x) none .e) (.n .e none (put d .e (k / 2) x)) (Nat.beq (k % 2) 1)) (.n .e x .e) (Nat.beq k 0) = _
    rw [beq_ite, beq_ite]; rfl
  | n l v r =>
    show Bool.rec (motive := fun _ => T α) (Bool.rec (motive := fun _ => T α) (.n (put d l (k / 2 - 1) x) v r) (.n l v (put d r (k / 2) x)) (Nat.beq (k % 2) 1)) (.n l x r) (Nat.beq k 0) = _
    rw [beq_ite, beq_ite]; rfl
theorem put_zero (t : T α) (x : Option α) (j : Nat) : (put 0 t 0 x).get j = if j = 0 then x else t.get j := by
  rw [get_kids t j]
  cases t with
  | e =>
    show (T.n .e x .e).get j = _
    simp only [get_n, kids, get_e]; by_cases hj : j = 0 <;> simp [hj]
  | n l v r =>
    show (T.n l x r).get j = _
    simp only [get_n, kids]; by_cases hj : j = 0 <;> simp [hj]
theorem get_put_at : ∀ (d : Nat) (t : T α) (k : Nat) (x : Option α) (j : Nat), k < 2 ^ d → (put d t k x).get j = if j = k then x else t.get j
  | 0, t, k, x, j, h => by
    have : k = 0 := by simpa using h
    subst this
    exact (put_zero t x j)
  | d + 1, t, k, x, j, h => by
    have ih := fun t k' j' h' => get_put_at d t k' x j' h'
    rw [Nat.pow_succ] at h
    rw [put_kids, get_kids t j]
    by_cases hk : k = 0
    · subst hk
      rw [if_pos rfl, get_n]
      by_cases hj : j = 0 <;> simp [hj]
    · rw [if_neg hk]
      by_cases ho : k % 2 = 1
      · rw [if_pos ho, get_n, ih _ _ _ (by omega)]
        by_cases hj : j = 0
        · subst hj; rw [if_pos rfl, if_pos rfl, if_neg (by omega)]
        · rw [if_neg hj, if_neg hj]
          by_cases hjo : j % 2 = 1
          · rw [if_pos hjo, if_pos hjo]
            by_cases e : j = k
            · subst e; simp
            · rw [if_neg e, if_neg (by omega)]
          · rw [if_neg hjo, if_neg hjo, if_neg (by intro e; subst e; exact hjo ho)]
      · rw [if_neg ho, get_n, ih _ _ _ (by omega)]
        by_cases hj : j = 0
        · subst hj; rw [if_pos rfl, if_pos rfl, if_neg (by omega)]
        · rw [if_neg hj, if_neg hj]
          by_cases hjo : j % 2 = 1
          · rw [if_pos hjo, if_pos hjo, if_neg (by intro e; subst e; exact ho hjo)]
          · rw [if_neg hjo, if_neg hjo]
            by_cases e : j = k
            · subst e; simp
            · rw [if_neg e, if_neg (by omega)]
/-- How many keys there are. -/
def top : Nat := 1152921504606846976
def set (t : T α) (k : Nat) (x : Option α) : T α := put 60 t k x
theorem get_set {t : T α} {k : Nat} {x : Option α} (h : k < top) (j : Nat) : (t.set k x).get j = if j = k then x else t.get j := get_put_at 60 t k x j (by simpa [top] using h)
/-- A list from a place on. -/
def fill : List α → Nat → T α → T α
  | [], _, t => t
  | x :: l, k, t => fill l (k + 1) (t.set k (some x))
theorem get_fill : ∀ {l : List α} {k : Nat} {t : T α}, k + l.length ≤ top → ∀ j, (fill l k t).get j = if k ≤ j ∧ j < k + l.length then l[j - k]? else t.get j
  | [], k, t, _, j => by simp only [fill, List.length_nil]; rw [if_neg (by omega)]
  | x :: l, k, t, h, j => by
    simp only [List.length_cons] at h
    rw [fill, get_fill (by omega), get_set (by omega)]
    simp only [List.length_cons]
    by_cases hj : j = k
    · subst hj
      rw [if_neg (by omega), if_pos rfl, if_pos (by omega)]; simp
    · rw [if_neg hj]
      by_cases h2 : k + 1 ≤ j ∧ j < k + 1 + l.length
      · rw [if_pos h2, if_pos (by omega), show j - k = (j - (k + 1)) + 1 by omega]; simp
      · rw [if_neg h2, if_neg (by omega)]
end T

/-- Where an abstract block lies: the block, the offset of its first cell, how many cells are known, how many there are, and, if it may be appended to, the cells of an element (0: it may not). -/
structure Im where
  c : Nat
  d : Nat
  n : Nat
  sz : Nat
  e : Nat
abbrev Phi := Nat → Option Im
/-- The capacity of a slice whose capacity is not known. -/
def open_ : Nat := 1329227995784915872903807060280344576

/-- Functions that stand for one another. -/
inductive FnR (φ : Phi) : Fn → Fn → Prop
  | same {f : Fn} (h : ∀ l, f ≠ .yield l) : FnR φ f f
  | yield {l : Nat} (i : Im) (h : φ l = some i) : FnR φ (.yield l) (.yield i.c)

/-- An abstract value stands for a value. -/
inductive VR (φ : Phi) : Value → Value → Prop
  | bool (b : Bool) : VR φ (.bool b) (.bool b)
  | int (k : IntKind) (n : Int) : VR φ (.int k n) (.int k n)
  | float (k : FloatKind) (n : Nat) : VR φ (.float k n) (.float k n)
  | string (s : ByteArray) : VR φ (.string s) (.string s)
  | nilp : VR φ (.pointer none) (.pointer none)
  | ptr {a : Addr} (i : Im) (hi : φ a.block = some i) (hs : a.spot = none) : VR φ (.pointer (some a)) (.pointer (some ⟨i.c, a.off + i.d, none⟩))
  | nils (l c : Nat) : VR φ (.slice none l c) (.slice none l c)
  | slice0 (a a' : Addr) (l : Nat) : VR φ (.slice (some a) l 0) (.slice (some a') l 0)
  | slice {a : Addr} {l c : Nat} (i : Im) (hi : φ a.block = some i) (hs : a.spot = none) (hc : c ≠ open_) : VR φ (.slice (some a) l c) (.slice (some ⟨i.c, a.off + i.d, none⟩) l c)
  | opens {a a' : Addr} {l c' : Nat} (i : Im) (hi : φ a.block = some i) (hs : a.spot = none) (ho : 0 < i.e) (hl : l ≤ c') (hn : i.n ≤ a.off + c' * i.e)
      (hz : a.off + i.d + c' * i.e ≤ i.sz) (ha : 0 < c' → a' = ⟨i.c, a.off + i.d, none⟩) : VR φ (.slice (some a) l open_) (.slice (some a') l c')
  | nilm : VR φ (.map none) (.map none)
  | opq (k : Nat) (a : Option Addr) (l c : Nat) : VR φ (.chan (some k)) (.slice a l c)
  | map {r : Nat} (i : Im) (hi : φ r = some i) : VR φ (.map (some r)) (.map (some i.c))
  | func {f f' : Fn} {a b a' b' : List Value} (hf : FnR φ f f') (ha : a.length = a'.length) (hb : b.length = b'.length) (h1 : ∀ (i : Nat) v v', a[i]? = some v → a'[i]? = some v' → VR φ v v')
      (h2 : ∀ (i : Nat) v v', b[i]? = some v → b'[i]? = some v' → VR φ v v') : VR φ (.func f ⟨a⟩ ⟨b⟩) (.func f' ⟨a'⟩ ⟨b'⟩)
  | nilf : VR φ .nilFunc .nilFunc
  | iface {t : TypeId} {v v' : Value} (h : VR φ v v') : VR φ (.iface t v) (.iface t v')
  | nili : VR φ .nilIface .nilIface
  | agg {a a' : List Value} (ha : a.length = a'.length) (h : ∀ (i : Nat) v v', a[i]? = some v → a'[i]? = some v' → VR φ v v') : VR φ (.agg ⟨a⟩) (.agg ⟨a'⟩)
  | tuple {a a' : List Value} (ha : a.length = a'.length) (h : ∀ (i : Nat) v v', a[i]? = some v → a'[i]? = some v' → VR φ v v') : VR φ (.tuple ⟨a⟩) (.tuple ⟨a'⟩)

/-- More is known. -/
def Le (φ φ' : Phi) : Prop := ∀ b i, φ b = some i → φ' b = some i
theorem Le.refl (φ : Phi) : Le φ φ := fun _ _ h => h
theorem Le.trans {φ φ' φ'' : Phi} (h : Le φ φ') (h' : Le φ' φ'') : Le φ φ'' := fun b i hi => h' b i (h b i hi)
theorem FnR.mono {φ φ' : Phi} (l : Le φ φ') {f f' : Fn} (h : FnR φ f f') : FnR φ' f f' := by
  cases h with
  | same h => exact .same h
  | yield i h => exact .yield i (l _ _ h)
theorem VR.mono {φ φ' : Phi} (l : Le φ φ') {v v' : Value} (h : VR φ v v') : VR φ' v v' := by
  induction h with
  | bool b => exact .bool b
  | int k n => exact .int k n
  | float k n => exact .float k n
  | string s => exact .string s
  | nilp => exact .nilp
  | ptr i hi hs => exact .ptr i (l _ _ hi) hs
  | nils l c => exact .nils l c
  | slice0 a a' l => exact .slice0 a a' l
  | slice i hi hs hc => exact .slice i (l _ _ hi) hs hc
  | opens i hi hs ho hl hn hz ha => exact .opens i (l _ _ hi) hs ho hl hn hz ha
  | nilm => exact .nilm
  | opq k a l c => exact .opq k a l c
  | map i hi => exact .map i (l _ _ hi)
  | func hf ha hb _ _ ih1 ih2 => exact .func (hf.mono l) ha hb ih1 ih2
  | nilf => exact .nilf
  | iface _ ih => exact .iface ih
  | nili => exact .nili
  | agg ha _ ih => exact .agg ha ih
  | tuple ha _ ih => exact .tuple ha ih

/-- Lists of values that stand for one another. -/
inductive LR (φ : Phi) : List Value → List Value → Prop
  | nil : LR φ [] []
  | cons {v v' : Value} {l l' : List Value} (h : VR φ v v') (t : LR φ l l') : LR φ (v :: l) (v' :: l')
theorem LR.mono {φ φ' : Phi} (le : Le φ φ') {l l' : List Value} (h : LR φ l l') : LR φ' l l' := by
  induction h with
  | nil => exact .nil
  | cons h _ ih => exact .cons (h.mono le) ih
theorem LR.length {φ : Phi} {l l' : List Value} (h : LR φ l l') : l.length = l'.length := by
  induction h with
  | nil => rfl
  | cons _ _ ih => simp [ih]
theorem LR.get {φ : Phi} {l l' : List Value} (h : LR φ l l') : ∀ {k : Nat} {v : Value}, l[k]? = some v → ∃ v', l'[k]? = some v' ∧ VR φ v v' := by
  induction h with
  | nil => intro k v h; simp at h
  | cons h _ ih =>
    intro k v hk
    cases k with
    | zero => simp at hk; subst hk; exact ⟨_, rfl, h⟩
    | succ k => simp at hk; simpa using ih hk
theorem LR.of {φ : Phi} : ∀ {l l' : List Value}, l.length = l'.length → (∀ (i : Nat) v v', l[i]? = some v → l'[i]? = some v' → VR φ v v') → LR φ l l'
  | [], [], _, _ => .nil
  | [], _ :: _, h, _ => by simp at h
  | _ :: _, [], h, _ => by simp at h
  | v :: l, v' :: l', h, hv => .cons (hv 0 v v' rfl rfl) (LR.of (by simpa using h) (fun i v v' h1 h2 => hv (i + 1) v v' (by simpa using h1) (by simpa using h2)))
theorem LR.at {φ : Phi} {l l' : List Value} (h : LR φ l l') : ∀ (i : Nat) v v', l[i]? = some v → l'[i]? = some v' → VR φ v v' := by
  intro i v v' h1 h2
  obtain ⟨u, h3, h4⟩ := h.get h1
  rw [h2] at h3; cases h3; exact h4
theorem LR.append {φ : Phi} {l l' m m' : List Value} (h : LR φ l l') (k : LR φ m m') : LR φ (l ++ m) (l' ++ m') := by
  induction h with
  | nil => exact k
  | cons h _ ih => exact .cons h ih
theorem LR.take {φ : Phi} {l l' : List Value} (h : LR φ l l') : ∀ n, LR φ (l.take n) (l'.take n) := by
  induction h with
  | nil => intro n; simp; exact .nil
  | cons h _ ih => intro n; cases n with | zero => simp; exact .nil | succ n => simpa using .cons h (ih n)
theorem LR.drop {φ : Phi} {l l' : List Value} (h : LR φ l l') : ∀ n, LR φ (l.drop n) (l'.drop n) := by
  induction h with
  | nil => intro n; simp; exact .nil
  | cons h t ih => intro n; cases n with | zero => simpa using .cons h t | succ n => simpa using ih n
theorem VR.agg' {φ : Phi} {l l' : List Value} (h : LR φ l l') : VR φ (.agg ⟨l⟩) (.agg ⟨l'⟩) := .agg h.length h.at
theorem VR.tuple' {φ : Phi} {l l' : List Value} (h : LR φ l l') : VR φ (.tuple ⟨l⟩) (.tuple ⟨l'⟩) := .tuple h.length h.at
theorem VR.func' {φ : Phi} {f f' : Fn} {a b a' b' : List Value} (hf : FnR φ f f') (h1 : LR φ a a') (h2 : LR φ b b') : VR φ (.func f ⟨a⟩ ⟨b⟩) (.func f' ⟨a'⟩ ⟨b'⟩) := .func hf h1.length h2.length h1.at h2.at
/-- The cells of a value. -/
def cellsL : Value → List Value
  | .agg ⟨l⟩ => l
  | v => [v]
theorem cellsL_eq (v : Value) : v.cells.toList = cellsL v := by cases v <;> rfl
theorem cells_eq (v : Value) : v.cells = ⟨cellsL v⟩ := by cases v <;> rfl
theorem VR.cells {φ : Phi} {v v' : Value} (h : VR φ v v') : LR φ (cellsL v) (cellsL v') := by
  cases h with
  | agg ha h => exact LR.of ha h
  | bool b => exact .cons (.bool b) .nil
  | int k n => exact .cons (.int k n) .nil
  | float k n => exact .cons (.float k n) .nil
  | string s => exact .cons (.string s) .nil
  | nilp => exact .cons .nilp .nil
  | ptr i hi hs => exact .cons (.ptr i hi hs) .nil
  | nils l c => exact .cons (.nils l c) .nil
  | slice0 a a' l => exact .cons (.slice0 a a' l) .nil
  | slice i hi hs hc => exact .cons (.slice i hi hs hc) .nil
  | opens i hi hs ho hl hn hz ha => exact .cons (.opens i hi hs ho hl hn hz ha) .nil
  | nilm => exact .cons .nilm .nil
  | opq k a l c => exact .cons (.opq k a l c) .nil
  | map i hi => exact .cons (.map i hi) .nil
  | func hf ha hb h1 h2 => exact .cons (.func hf ha hb h1 h2) .nil
  | nilf => exact .cons .nilf .nil
  | iface h => exact .cons (.iface h) .nil
  | nili => exact .cons .nili .nil
  | tuple ha h => exact .cons (.tuple ha h) .nil
theorem VR.one {φ : Phi} {v v' : Value} (h : VR φ v v') : v'.oneCell' = v.oneCell' := by cases h <;> rfl

/-- A value without addresses. -/
def pf : Nat → Value → Bool
  | _, .bool _ | _, .int _ _ | _, .float _ _ | _, .string _ | _, .pointer none | _, .slice none _ _ | _, .map none | _, .nilFunc | _, .nilIface => true
  | n + 1, .iface _ v => pf n v
  | n + 1, .agg ⟨l⟩ => l.all (pf n)
  | n + 1, .tuple ⟨l⟩ => l.all (pf n)
  | _, .func (.func _) ⟨[]⟩ ⟨[]⟩ => true
  | _, _ => false
theorem pf_same : ∀ (n : Nat) {v v' : Value} {φ : Phi}, pf n v = true → VR φ v v' → v' = v := by
  intro n
  induction n with
  | zero =>
    intro v v' φ hp h
    cases h <;> first | rfl | (simp [pf] at hp; done) | skip
    rename_i f f' a b a' b' hf ha hb h1 h2
    cases hf with
    | same hf =>
      cases a with
      | cons x l => cases f <;> simp [pf] at hp
      | nil => cases b with
        | cons x l => cases f <;> simp [pf] at hp
        | nil => cases a' with
          | cons x l => simp at ha
          | nil => cases b' with
            | cons x l => simp at hb
            | nil => rfl
    | yield i hi => cases a <;> cases b <;> simp [pf] at hp
  | succ n ih =>
    have all : ∀ {φ : Phi} {l l' : List Value}, LR φ l l' → l.all (pf n) = true → l' = l := by
      intro φ l l' h
      induction h with
      | nil => intro _; rfl
      | cons h _ ih' =>
        intro hp
        simp only [List.all_cons, Bool.and_eq_true] at hp
        rw [ih hp.1 h, ih' hp.2]
    intro v v' φ hp h
    cases h <;> first | rfl | (simp [pf] at hp; done) | skip
    · rename_i f f' a b a' b' hf ha hb h1 h2
      cases hf with
      | same hf =>
        cases a with
        | cons x l => cases f <;> simp [pf] at hp
        | nil => cases b with
          | cons x l => cases f <;> simp [pf] at hp
          | nil => cases a' with
            | cons x l => simp at ha
            | nil => cases b' with
              | cons x l => simp at hb
              | nil => rfl
      | yield i hi => cases a <;> cases b <;> simp [pf] at hp
    · rename_i t v v' h
      rw [ih (by simpa [pf] using hp) h]
    · rename_i a a' ha h
      rw [all (LR.of ha h) (by simpa [pf] using hp)]
    · rename_i a a' ha h
      rw [all (LR.of ha h) (by simpa [pf] using hp)]
theorem pf_refl (φ : Phi) : ∀ (n : Nat) {v : Value}, pf n v = true → VR φ v v := by
  intro n
  induction n with
  | zero =>
    intro v hp
    cases v with
    | bool b => exact .bool b
    | int k n => exact .int k n
    | float k n => exact .float k n
    | string s => exact .string s
    | pointer a => cases a with | none => exact .nilp | some a => simp [pf] at hp
    | slice a l c => cases a with | none => exact .nils l c | some a => simp [pf] at hp
    | map r => cases r with | none => exact .nilm | some r => simp [pf] at hp
    | nilFunc => exact .nilf
    | nilIface => exact .nili
    | func f a b =>
      obtain ⟨a⟩ := a
      obtain ⟨b⟩ := b
      cases f <;> cases a <;> cases b <;> simp [pf] at hp
      exact .func' (.same (fun l e => by cases e)) .nil .nil
    | _ => simp [pf] at hp
  | succ n ih =>
    have all : ∀ {l : List Value}, l.all (pf n) = true → LR φ l l := by
      intro l
      induction l with
      | nil => intro _; exact .nil
      | cons x l ih' =>
        intro hp
        simp only [List.all_cons, Bool.and_eq_true] at hp
        exact .cons (ih hp.1) (ih' hp.2)
    intro v hp
    cases v with
    | bool b => exact .bool b
    | int k n => exact .int k n
    | float k n => exact .float k n
    | string s => exact .string s
    | pointer a => cases a with | none => exact .nilp | some a => simp [pf] at hp
    | slice a l c => cases a with | none => exact .nils l c | some a => simp [pf] at hp
    | map r => cases r with | none => exact .nilm | some r => simp [pf] at hp
    | nilFunc => exact .nilf
    | nilIface => exact .nili
    | func f a b =>
      obtain ⟨a⟩ := a
      obtain ⟨b⟩ := b
      cases f <;> cases a <;> cases b <;> simp [pf] at hp
      exact .func' (.same (fun l e => by cases e)) .nil .nil
    | iface t v => exact .iface (ih (by simpa [pf] using hp))
    | agg a => obtain ⟨a⟩ := a; exact .agg' (all (by simpa [pf] using hp))
    | tuple a => obtain ⟨a⟩ := a; exact .tuple' (all (by simpa [pf] using hp))
    | _ => simp [pf] at hp
/-- Values without addresses. -/
def pfv (v : Value) : Bool := pf 9 v
theorem pfv_same {v v' : Value} {φ : Phi} (h : pfv v = true) (k : VR φ v v') : v' = v := pf_same 9 h k
theorem pfv_refl {v : Value} (φ : Phi) (h : pfv v = true) : VR φ v v := pf_refl φ 9 h
end
end Go.X
