/- Parts of the closed evaluator. -/
import Derived.WalkKit
namespace Go.X
noncomputable section
open Go Go.RowKit
inductive T (α : Type) where
 | e : T α
 | n (l : T α) (v : Option α) (r : T α) : T α
namespace T
variable {α : Type}
def get (t : T α) : Nat → Option α := T.rec (motive := fun _ => Nat → Option α) (fun _ => none)
 (fun _ v _ gl gr k => Bool.rec (Bool.rec (gl (Nat.sub (Nat.div k (nat_lit 2)) (nat_lit 1))) (gr (Nat.div k (nat_lit 2))) (Nat.beq (Nat.mod k (nat_lit 2)) (nat_lit 1))) v (Nat.beq k (nat_lit 0))) t
def put (d : Nat) : T α → Nat → Option α → T α := Nat.rec (motive := fun _ => T α → Nat → Option α → T α)
 (fun t _ x => T.rec (motive := fun _ => T α) (.n .e x .e) (fun l _ r _ _ => .n l x r) t)
 (fun _ p t k x => T.rec (motive := fun _ => T α)
  (Bool.rec (Bool.rec (.n (p .e (Nat.sub (Nat.div k (nat_lit 2)) (nat_lit 1)) x) none .e) (.n .e none (p .e (Nat.div k (nat_lit 2)) x)) (Nat.beq (Nat.mod k (nat_lit 2)) (nat_lit 1))) (.n .e x .e) (Nat.beq k (nat_lit 0)))
  (fun l v r _ _ => Bool.rec (Bool.rec (.n (p l (Nat.sub (Nat.div k (nat_lit 2)) (nat_lit 1)) x) v r) (.n l v (p r (Nat.div k (nat_lit 2)) x)) (Nat.beq (Nat.mod k (nat_lit 2)) (nat_lit 1))) (.n l x r) (Nat.beq k (nat_lit 0))) t) d
theorem beq_ite {β : Type} (a b : Nat) (x y : β) : (Bool.rec (motive := fun _ => β) y x (Nat.beq a b) : β) = if a = b then x else y := by
 by_cases h : a = b
 · subst h; rw [if_pos rfl, Nat.beq_refl]
 · rw [if_neg h]
   cases hq : Nat.beq a b with
   | true => exact (h (Nat.eq_of_beq_eq_true hq)).elim
   | false => rfl
theorem get_e (k : Nat) : (T.e : T α).get k = none := rfl
theorem get_n (l r : T α) (v : Option α) (k : Nat) : (T.n l v r).get k = if k = 0 then v else if k % 2 = 1 then get r (k / 2) else get l (k / 2 - 1) := by
 show Bool.rec (motive := fun _ => Option α) (Bool.rec (motive := fun _ => Option α) (get l (k / 2 - 1)) (get r (k / 2)) (Nat.beq (k % 2) 1)) v (Nat.beq k 0) = _
 rw [beq_ite, beq_ite]
def kids : T α → T α × Option α × T α
 | .e => (.e, none, .e)
 | .n l v r => (l, v, r)
theorem get_kids (t : T α) (k : Nat) : t.get k = if k = 0 then t.kids.2.1 else if k % 2 = 1 then t.kids.2.2.get (k / 2) else t.kids.1.get (k / 2 - 1) := by
 cases t with
 | e => simp [get_e, kids]
 | n l v r => rw [get_n]; rfl
theorem put_kids (d : Nat) (t : T α) (k : Nat) (x : Option α) : put (d + 1) t k x = if k = 0 then .n t.kids.1 x t.kids.2.2 else if k % 2 = 1 then .n t.kids.1 t.kids.2.1 (put d t.kids.2.2 (k / 2) x) else .n (put d t.kids.1 (k / 2 - 1) x) t.kids.2.1 t.kids.2.2 := by
 cases t with
 | e =>
  show Bool.rec (motive := fun _ => T α) (Bool.rec (motive := fun _ => T α) (.n (put d .e (k / 2 - 1) x) none .e) (.n .e none (put d .e (k / 2) x)) (Nat.beq (k % 2) 1)) (.n .e x .e) (Nat.beq k 0) = _
  rw [beq_ite, beq_ite]; rfl
 | n l v r =>
  show Bool.rec (motive := fun _ => T α) (Bool.rec (motive := fun _ => T α) (.n (put d l (k / 2 - 1) x) v r) (.n l v (put d r (k / 2) x)) (Nat.beq (k % 2) 1)) (.n l x r) (Nat.beq k 0) = _
  rw [beq_ite, beq_ite]; rfl
theorem put_zero (t : T α) (x : Option α) (j : Nat) : (put 0 t 0 x).get j = if j = 0 then x else t.get j := by
 rw [get_kids t j]
 cases t with
 | e =>
  show (T.n .e x .e).get j = _
  simp only [get_n, kids, get_e]; by_cases hj : j = 0 <;> simp [hj]
 | n l v r =>
  show (T.n l x r).get j = _
  simp only [get_n, kids]; by_cases hj : j = 0 <;> simp [hj]
theorem get_put_at : ∀ (d : Nat) (t : T α) (k : Nat) (x : Option α) (j : Nat), k < 2 ^ d → (put d t k x).get j = if j = k then x else t.get j
 | 0, t, k, x, j, h => by
  have : k = 0 := by simpa using h
  subst this
  exact (put_zero t x j)
 | d + 1, t, k, x, j, h => by
  have ih := fun t k' j' h' => get_put_at d t k' x j' h'
  rw [Nat.pow_succ] at h
  rw [put_kids, get_kids t j]
  by_cases hk : k = 0
  · subst hk
    rw [if_pos rfl, get_n]
    by_cases hj : j = 0 <;> simp [hj]
  · rw [if_neg hk]
    by_cases ho : k % 2 = 1
    · rw [if_pos ho, get_n, ih _ _ _ (by omega)]
      by_cases hj : j = 0
      · subst hj; rw [if_pos rfl, if_pos rfl, if_neg (by omega)]
      · rw [if_neg hj, if_neg hj]
        by_cases hjo : j % 2 = 1
        · rw [if_pos hjo, if_pos hjo]
          by_cases e : j = k
          · subst e; simp
          · rw [if_neg e, if_neg (by omega)]
        · rw [if_neg hjo, if_neg hjo, if_neg (by intro e; subst e; exact hjo ho)]
    · rw [if_neg ho, get_n, ih _ _ _ (by omega)]
      by_cases hj : j = 0
      · subst hj; rw [if_pos rfl, if_pos rfl, if_neg (by omega)]
      · rw [if_neg hj, if_neg hj]
        by_cases hjo : j % 2 = 1
        · rw [if_pos hjo, if_pos hjo, if_neg (by intro e; subst e; exact ho hjo)]
        · rw [if_neg hjo, if_neg hjo]
          by_cases e : j = k
          · subst e; simp
          · rw [if_neg e, if_neg (by omega)]
def Ok (_ : Nat) : Prop := True
def set (t : T α) (k : Nat) (x : Option α) : T α := put (Nat.succ (Nat.log2 k)) t k x
theorem get_set {t : T α} {k : Nat} {x : Option α} (j : Nat) : (t.set k x).get j = if j = k then x else t.get j := get_put_at (Nat.log2 k + 1) t k x j Nat.lt_log2_self
def fill : List α → Nat → T α → T α
 | [], _, t => t
 | x :: l, k, t => fill l (k + 1) (t.set k (some x))
theorem get_fill : ∀ {l : List α} {k : Nat} {t : T α} (j : Nat), (fill l k t).get j = if k ≤ j ∧ j < k + l.length then l[j - k]? else t.get j
 | [], k, t, j => by simp only [fill, List.length_nil]; rw [if_neg (by omega)]
 | x :: l, k, t, j => by
  rw [fill, get_fill, get_set]
  simp only [List.length_cons]
  by_cases hj : j = k
  · subst hj
    rw [if_neg (by omega), if_pos rfl, if_pos (by omega)]; simp
  · rw [if_neg hj]
    by_cases h2 : k + 1 ≤ j ∧ j < k + 1 + l.length
    · rw [if_pos h2, if_pos (by omega), show j - k = (j - (k + 1)) + 1 by omega]; simp
    · rw [if_neg h2, if_neg (by omega)]
end T
structure Im where
 c : Nat
 d : Nat
 n : Nat
 sz : Nat
 e : Nat
abbrev Phi := Nat → Option Im
def open_ : Nat := 1329227995784915872903807060280344576
inductive FnR (φ : Phi) : Fn → Fn → Prop
 | same {f : Fn} (h : ∀ l, f ≠ .yield l) : FnR φ f f
 | yield {l : Nat} (i : Im) (h : φ l = some i) : FnR φ (.yield l) (.yield i.c)
def notBool : Value → Bool
 | .bool _ => false
 | _ => true
inductive VR (φ : Phi) : Value → Value → Prop
 | bool (b : Bool) : VR φ (.bool b) (.bool b)
 | int (k : IntKind) (n : Int) : VR φ (.int k n) (.int k n)
 | float (k : FloatKind) (n : Nat) : VR φ (.float k n) (.float k n)
 | string (s : ByteArray) : VR φ (.string s) (.string s)
 | nilp : VR φ (.pointer none) (.pointer none)
 | ptr {a : Addr} (i : Im) (hi : φ a.block = some i) (hs : a.spot = none) : VR φ (.pointer (some a)) (.pointer (some ⟨i.c, a.off + i.d, none⟩))
 | nils (l c : Nat) : VR φ (.slice none l c) (.slice none l c)
 | slice0 (a a' : Addr) (l : Nat) : VR φ (.slice (some a) l 0) (.slice (some a') l 0)
 | slice {a : Addr} {l c : Nat} (i : Im) (hi : φ a.block = some i) (hs : a.spot = none) (hc : c ≠ open_) : VR φ (.slice (some a) l c) (.slice (some ⟨i.c, a.off + i.d, none⟩) l c)
 | opens {a a' : Addr} {l c' : Nat} (i : Im) (hi : φ a.block = some i) (hs : a.spot = none) (ho : 0 < i.e) (hl : l ≤ c') (hn : i.n ≤ a.off + c' * i.e)
  (hz : a.off + i.d + c' * i.e ≤ i.sz) (ha : 0 < c' → a' = ⟨i.c, a.off + i.d, none⟩) : VR φ (.slice (some a) l open_) (.slice (some a') l c')
 | nilm : VR φ (.map none) (.map none)
 | opq (k : Nat) (a : Option Addr) (l c : Nat) : VR φ (.chan (some k)) (.slice a l c)
 | top (v : Value) (h : v.oneCell' = true) (hb : notBool v = true) : VR φ (.chan none) v
 | map {r : Nat} (i : Im) (hi : φ r = some i) : VR φ (.map (some r)) (.map (some i.c))
 | func {f f' : Fn} {a b a' b' : List Value} (hf : FnR φ f f') (ha : a.length = a'.length) (hb : b.length = b'.length) (h1 : ∀ (i : Nat) v v', a[i]? = some v → a'[i]? = some v' → VR φ v v')
  (h2 : ∀ (i : Nat) v v', b[i]? = some v → b'[i]? = some v' → VR φ v v') : VR φ (.func f ⟨a⟩ ⟨b⟩) (.func f' ⟨a'⟩ ⟨b'⟩)
 | nilf : VR φ .nilFunc .nilFunc
 | iface {t : TypeId} {v v' : Value} (h : VR φ v v') : VR φ (.iface t v) (.iface t v')
 | nili : VR φ .nilIface .nilIface
 | agg {a a' : List Value} (ha : a.length = a'.length) (h : ∀ (i : Nat) v v', a[i]? = some v → a'[i]? = some v' → VR φ v v') : VR φ (.agg ⟨a⟩) (.agg ⟨a'⟩)
 | tuple {a a' : List Value} (ha : a.length = a'.length) (h : ∀ (i : Nat) v v', a[i]? = some v → a'[i]? = some v' → VR φ v v') : VR φ (.tuple ⟨a⟩) (.tuple ⟨a'⟩)
def Le (φ φ' : Phi) : Prop := ∀ b i, φ b = some i → φ' b = some i
theorem Le.refl (φ : Phi) : Le φ φ := fun _ _ h => h
theorem Le.trans {φ φ' φ'' : Phi} (h : Le φ φ') (h' : Le φ' φ'') : Le φ φ'' := fun b i hi => h' b i (h b i hi)
theorem FnR.mono {φ φ' : Phi} (l : Le φ φ') {f f' : Fn} (h : FnR φ f f') : FnR φ' f f' := by
 cases h with
 | same h => exact .same h
 | yield i h => exact .yield i (l _ _ h)
theorem VR.mono {φ φ' : Phi} (l : Le φ φ') {v v' : Value} (h : VR φ v v') : VR φ' v v' := by
 induction h with
 | bool b => exact .bool b
 | int k n => exact .int k n
 | float k n => exact .float k n
 | string s => exact .string s
 | nilp => exact .nilp
 | ptr i hi hs => exact .ptr i (l _ _ hi) hs
 | nils l c => exact .nils l c
 | slice0 a a' l => exact .slice0 a a' l
 | slice i hi hs hc => exact .slice i (l _ _ hi) hs hc
 | opens i hi hs ho hl hn hz ha => exact .opens i (l _ _ hi) hs ho hl hn hz ha
 | nilm => exact .nilm
 | top v h hb => exact .top v h hb
 | opq k a l c => exact .opq k a l c
 | map i hi => exact .map i (l _ _ hi)
 | func hf ha hb _ _ ih1 ih2 => exact .func (hf.mono l) ha hb ih1 ih2
 | nilf => exact .nilf
 | iface _ ih => exact .iface ih
 | nili => exact .nili
 | agg ha _ ih => exact .agg ha ih
 | tuple ha _ ih => exact .tuple ha ih
inductive LR (φ : Phi) : List Value → List Value → Prop
 | nil : LR φ [] []
 | cons {v v' : Value} {l l' : List Value} (h : VR φ v v') (t : LR φ l l') : LR φ (v :: l) (v' :: l')
theorem LR.mono {φ φ' : Phi} (le : Le φ φ') {l l' : List Value} (h : LR φ l l') : LR φ' l l' := by
 induction h with
 | nil => exact .nil
 | cons h _ ih => exact .cons (h.mono le) ih
theorem LR.length {φ : Phi} {l l' : List Value} (h : LR φ l l') : l.length = l'.length := by
 induction h with
 | nil => rfl
 | cons _ _ ih => simp [ih]
theorem LR.get {φ : Phi} {l l' : List Value} (h : LR φ l l') : ∀ {k : Nat} {v : Value}, l[k]? = some v → ∃ v', l'[k]? = some v' ∧ VR φ v v' := by
 induction h with
 | nil => intro k v h; simp at h
 | cons h _ ih =>
  intro k v hk
  cases k with
  | zero => simp at hk; subst hk; exact ⟨_, rfl, h⟩
  | succ k => simp at hk; simpa using ih hk
theorem LR.of {φ : Phi} : ∀ {l l' : List Value}, l.length = l'.length → (∀ (i : Nat) v v', l[i]? = some v → l'[i]? = some v' → VR φ v v') → LR φ l l'
 | [], [], _, _ => .nil
 | [], _ :: _, h, _ => by simp at h
 | _ :: _, [], h, _ => by simp at h
 | v :: l, v' :: l', h, hv => .cons (hv 0 v v' rfl rfl) (LR.of (by simpa using h) (fun i v v' h1 h2 => hv (i + 1) v v' (by simpa using h1) (by simpa using h2)))
theorem LR.at {φ : Phi} {l l' : List Value} (h : LR φ l l') : ∀ (i : Nat) v v', l[i]? = some v → l'[i]? = some v' → VR φ v v' := by
 intro i v v' h1 h2
 obtain ⟨u, h3, h4⟩ := h.get h1
 rw [h2] at h3; cases h3; exact h4
theorem LR.append {φ : Phi} {l l' m m' : List Value} (h : LR φ l l') (k : LR φ m m') : LR φ (l ++ m) (l' ++ m') := by
 induction h with
 | nil => exact k
 | cons h _ ih => exact .cons h ih
theorem LR.take {φ : Phi} {l l' : List Value} (h : LR φ l l') : ∀ n, LR φ (l.take n) (l'.take n) := by
 induction h with
 | nil => intro n; simp; exact .nil
 | cons h _ ih => intro n; cases n with | zero => simp; exact .nil | succ n => simpa using .cons h (ih n)
theorem LR.drop {φ : Phi} {l l' : List Value} (h : LR φ l l') : ∀ n, LR φ (l.drop n) (l'.drop n) := by
 induction h with
 | nil => intro n; simp; exact .nil
 | cons h t ih => intro n; cases n with | zero => simpa using .cons h t | succ n => simpa using ih n
theorem VR.agg' {φ : Phi} {l l' : List Value} (h : LR φ l l') : VR φ (.agg ⟨l⟩) (.agg ⟨l'⟩) := .agg h.length h.at
theorem VR.tuple' {φ : Phi} {l l' : List Value} (h : LR φ l l') : VR φ (.tuple ⟨l⟩) (.tuple ⟨l'⟩) := .tuple h.length h.at
theorem VR.func' {φ : Phi} {f f' : Fn} {a b a' b' : List Value} (hf : FnR φ f f') (h1 : LR φ a a') (h2 : LR φ b b') : VR φ (.func f ⟨a⟩ ⟨b⟩) (.func f' ⟨a'⟩ ⟨b'⟩) := .func hf h1.length h2.length h1.at h2.at
def cellsL : Value → List Value
 | .agg ⟨l⟩ => l
 | v => [v]
theorem cellsL_eq (v : Value) : v.cells.toList = cellsL v := by cases v <;> rfl
theorem cells_eq (v : Value) : v.cells = ⟨cellsL v⟩ := by cases v <;> rfl
theorem VR.cells {φ : Phi} {v v' : Value} (h : VR φ v v') : LR φ (cellsL v) (cellsL v') := by
 cases h with
 | agg ha h => exact LR.of ha h
 | bool b => exact .cons (.bool b) .nil
 | int k n => exact .cons (.int k n) .nil
 | float k n => exact .cons (.float k n) .nil
 | string s => exact .cons (.string s) .nil
 | nilp => exact .cons .nilp .nil
 | ptr i hi hs => exact .cons (.ptr i hi hs) .nil
 | nils l c => exact .cons (.nils l c) .nil
 | slice0 a a' l => exact .cons (.slice0 a a' l) .nil
 | slice i hi hs hc => exact .cons (.slice i hi hs hc) .nil
 | opens i hi hs ho hl hn hz ha => exact .cons (.opens i hi hs ho hl hn hz ha) .nil
 | nilm => exact .cons .nilm .nil
 | opq k a l c => exact .cons (.opq k a l c) .nil
 | top v h hb =>
  have e : cellsL v' = [v'] := by cases v' <;> first | rfl | (cases h)
  rw [e]
  exact .cons (.top v' h hb) .nil
 | map i hi => exact .cons (.map i hi) .nil
 | func hf ha hb h1 h2 => exact .cons (.func hf ha hb h1 h2) .nil
 | nilf => exact .cons .nilf .nil
 | iface h => exact .cons (.iface h) .nil
 | nili => exact .cons .nili .nil
 | tuple ha h => exact .cons (.tuple ha h) .nil
theorem VR.one {φ : Phi} {v v' : Value} (h : VR φ v v') : v'.oneCell' = v.oneCell' := by cases h <;> first | rfl | assumption
theorem VR.nb {φ : Phi} {v v' : Value} (h : VR φ v v') : notBool v' = notBool v := by cases h <;> first | rfl | assumption
def pf : Nat → Value → Bool
 | _, .bool _ | _, .int _ _ | _, .float _ _ | _, .string _ | _, .pointer none | _, .slice none _ _ | _, .map none | _, .nilFunc | _, .nilIface => true
 | n + 1, .iface _ v => pf n v
 | n + 1, .agg ⟨l⟩ => l.all (pf n)
 | n + 1, .tuple ⟨l⟩ => l.all (pf n)
 | _, .func (.func _) ⟨[]⟩ ⟨[]⟩ => true
 | _, _ => false
theorem pf_same : ∀ (n : Nat) {v v' : Value} {φ : Phi}, pf n v = true → VR φ v v' → v' = v := by
 intro n
 induction n with
 | zero =>
  intro v v' φ hp h
  cases h <;> first | rfl | (simp [pf] at hp; done) | skip
  rename_i f f' a b a' b' hf ha hb h1 h2
  cases hf with
  | same hf =>
    cases a with
    | cons x l => cases f <;> simp [pf] at hp
    | nil => cases b with
     | cons x l => cases f <;> simp [pf] at hp
     | nil => cases a' with
      | cons x l => simp at ha
      | nil => cases b' with
       | cons x l => simp at hb
       | nil => rfl
  | yield i hi => cases a <;> cases b <;> simp [pf] at hp
 | succ n ih =>
  have all : ∀ {φ : Phi} {l l' : List Value}, LR φ l l' → l.all (pf n) = true → l' = l := by
    intro φ l l' h
    induction h with
    | nil => intro _; rfl
    | cons h _ ih' =>
     intro hp
     simp only [List.all_cons, Bool.and_eq_true] at hp
     rw [ih hp.1 h, ih' hp.2]
  intro v v' φ hp h
  cases h <;> first | rfl | (simp [pf] at hp; done) | skip
  · rename_i f f' a b a' b' hf ha hb h1 h2
    cases hf with
    | same hf =>
     cases a with
     | cons x l => cases f <;> simp [pf] at hp
     | nil => cases b with
      | cons x l => cases f <;> simp [pf] at hp
      | nil => cases a' with
       | cons x l => simp at ha
       | nil => cases b' with
        | cons x l => simp at hb
        | nil => rfl
    | yield i hi => cases a <;> cases b <;> simp [pf] at hp
  · rename_i t v v' h
    rw [ih (by simpa [pf] using hp) h]
  · rename_i a a' ha h
    rw [all (LR.of ha h) (by simpa [pf] using hp)]
  · rename_i a a' ha h
    rw [all (LR.of ha h) (by simpa [pf] using hp)]
theorem pf_refl (φ : Phi) : ∀ (n : Nat) {v : Value}, pf n v = true → VR φ v v := by
 intro n
 induction n with
 | zero =>
  intro v hp
  cases v with
  | bool b => exact .bool b
  | int k n => exact .int k n
  | float k n => exact .float k n
  | string s => exact .string s
  | pointer a => cases a with | none => exact .nilp | some a => simp [pf] at hp
  | slice a l c => cases a with | none => exact .nils l c | some a => simp [pf] at hp
  | map r => cases r with | none => exact .nilm | some r => simp [pf] at hp
  | nilFunc => exact .nilf
  | nilIface => exact .nili
  | func f a b =>
   obtain ⟨a⟩ := a
   obtain ⟨b⟩ := b
   cases f <;> cases a <;> cases b <;> simp [pf] at hp
   exact .func' (.same (fun l e => by cases e)) .nil .nil
  | _ => simp [pf] at hp
 | succ n ih =>
  have all : ∀ {l : List Value}, l.all (pf n) = true → LR φ l l := by
   intro l
   induction l with
   | nil => intro _; exact .nil
   | cons x l ih' =>
    intro hp
    simp only [List.all_cons, Bool.and_eq_true] at hp
    exact .cons (ih hp.1) (ih' hp.2)
  intro v hp
  cases v with
  | bool b => exact .bool b
  | int k n => exact .int k n
  | float k n => exact .float k n
  | string s => exact .string s
  | pointer a => cases a with | none => exact .nilp | some a => simp [pf] at hp
  | slice a l c => cases a with | none => exact .nils l c | some a => simp [pf] at hp
  | map r => cases r with | none => exact .nilm | some r => simp [pf] at hp
  | nilFunc => exact .nilf
  | nilIface => exact .nili
  | func f a b =>
   obtain ⟨a⟩ := a
   obtain ⟨b⟩ := b
   cases f <;> cases a <;> cases b <;> simp [pf] at hp
   exact .func' (.same (fun l e => by cases e)) .nil .nil
  | iface t v => exact .iface (ih (by simpa [pf] using hp))
  | agg a => obtain ⟨a⟩ := a; exact .agg' (all (by simpa [pf] using hp))
  | tuple a => obtain ⟨a⟩ := a; exact .tuple' (all (by simpa [pf] using hp))
  | _ => simp [pf] at hp
def pfv (v : Value) : Bool := pf 9 v
theorem pfv_same {v v' : Value} {φ : Phi} (h : pfv v = true) (k : VR φ v v') : v' = v := pf_same 9 h k
theorem pfv_refl {v : Value} (φ : Phi) (h : pfv v = true) : VR φ v v := pf_refl φ 9 h
end
end Go.X
namespace Go.X
noncomputable section
open Go Go.RowKit
inductive AObj where
 | cells (c : T Value) (n op : Nat) (ro : Bool)
 | map (es : List (Value × Value × Nat)) (clock : Nat) (ro : Bool)
 | iter (m : Option Nat) (since : Nat) (seen : List Nat) (st : Nat)
 | sit (s : ByteArray) (p : Nat)
 | loop (st : LoopState) (pend : Option Code) (ts : T Value) (sz : Nat) (ps : List Tmp) (asg body : Code)
 | dfr
 | bag (es : List (ByteArray × Value))
 | tcells (ty : TypeId) (c : T Value) (n op : Nat)
def AObj.ro : AObj → Bool
 | .cells _ _ _ r => r
 | .map _ _ r => r
 | _ => false
structure AH where
 m : T AObj
 next : Nat
inductive ER (φ : Phi) : List (Value × Value × Nat) → List MapEntry → Prop
 | nil : ER φ [] []
 | cons {k v k' v' : Value} {b : Nat} {l : List (Value × Value × Nat)} {l' : List MapEntry} (hk : VR φ k k') (hv : VR φ v v') (t : ER φ l l') : ER φ ((k, v, b) :: l) (⟨k', v', b⟩ :: l')
theorem ER.mono {φ φ' : Phi} (le : Le φ φ') {l : List (Value × Value × Nat)} {l' : List MapEntry} (h : ER φ l l') : ER φ' l l' := by
 induction h with
 | nil => exact .nil
 | cons hk hv _ ih => exact .cons (hk.mono le) (hv.mono le) ih
theorem ER.length {φ : Phi} {l : List (Value × Value × Nat)} {l' : List MapEntry} (h : ER φ l l') : l.length = l'.length := by
 induction h with
 | nil => rfl
 | cons _ _ _ ih => simp [ih]
structure FR (φ : Phi) (n : Nat) (t : T Value) (a : Array Value) : Prop where
 size : a.size = n
 lt : T.Ok (n)
 get : ∀ k v, a[k]? = some v → VR φ ((t.get k).getD undef) v
theorem FR.mono {φ φ' : Phi} (le : Le φ φ') {n : Nat} {t : T Value} {a : Array Value} (h : FR φ n t a) : FR φ' n t a := ⟨h.size, h.lt, fun k v hk => (h.get k v hk).mono le⟩
def OR (φ : Phi) (i : Im) (w : World) : AObj → Prop
 | .cells c n op ro => i.n = n ∧ i.e = op ∧ T.Ok (n) ∧ ∃ arr el, (∃ fz, w.heap[i.c]? = some (.cells arr el fz) ∧ (ro = false → fz = (0, 0)) ∧ ∀ k, k < n → w.frozen? ⟨i.c, k + i.d, none⟩ = false) ∧ arr.size = i.sz ∧ n + i.d ≤ i.sz ∧
  ∀ k, k < n → ∃ v v', c.get k = some v ∧ arr[k + i.d]? = some v' ∧ VR φ v v'
 | .map es clock _ => ∃ arr, w.heap[i.c]? = some (.map arr clock) ∧ ER φ es arr.toList
 | .iter m since seen st => i.d = 0 ∧ ∃ m', w.heap[i.c]? = some (.mapIter m' since ⟨seen⟩ st) ∧ VR φ (.map m) (.map m')
 | .sit s p => i.d = 0 ∧ w.heap[i.c]? = some (.stringIter s p)
 | .loop st pend ts sz ps asg body => ∃ fn arr df, w.heap[i.c]? = some (.loop ⟨st, pend, fn, arr, ⟨ps⟩, asg, body, df⟩) ∧ FR φ sz ts arr
 | .dfr => w.heap[i.c]? = some (.deferred (some []))
 | .bag es => ∃ arr clock es', w.heap[i.c]? = some (.map arr clock) ∧ ER φ es' arr.toList ∧ (es'.map fun e => (e.1, e.2.1)).Perm (es.map fun e => (Value.string e.1, e.2))
 | .tcells ty c n op => i.n = n ∧ i.e = op ∧ i.d = 0 ∧ ∃ arr, w.heap[i.c]? = some (.cells arr ty (0, 0)) ∧ arr.size = i.sz ∧ (n ≤ i.sz ∧ (op = 0 → n = i.sz)) ∧ ∀ k, k < n → ∃ v v', c.get k = some v ∧ arr[k]? = some v' ∧ VR φ v v'
structure R (w0 : World) (φ : Phi) (h : AH) (w : World) : Prop where
 dom : ∀ b i o, φ b = some i → h.m.get b = some o → OR φ i w o
 low : ∀ b i o, φ b = some i → h.m.get b = some o → o.ro = false → w0.heap.size ≤ i.c
 inj : ∀ b b' i i' o o', φ b = some i → φ b' = some i' → h.m.get b = some o → h.m.get b' = some o' → o.ro = false → i.c = i'.c → b = b'
 lt : ∀ b i, φ b = some i → i.c < w.heap.size ∧ b < h.next
 nx : T.Ok (h.next)
 below : Below w0.heap.size w0 w
variable {w0 w w' : World} {φ φ' : Phi} {h h' : AH} {P : Program}
theorem OR.mono (le : Le φ φ') {i : Im} {o : AObj} (k : OR φ i w o) : OR φ' i w o := by
 cases o with
 | cells c n op ro =>
  obtain ⟨h1, h2, h3, arr, el, h4, h5, h6, h7⟩ := k
  exact ⟨h1, h2, h3, arr, el, h4, h5, h6, fun k hk => let ⟨v, v', a, b, c⟩ := h7 k hk; ⟨v, v', a, b, c.mono le⟩⟩
 | map es clock ro => obtain ⟨arr, h1, h2⟩ := k; exact ⟨arr, h1, h2.mono le⟩
 | iter m since seen st => obtain ⟨h0, m', h1, h2⟩ := k; exact ⟨h0, m', h1, h2.mono le⟩
 | sit s p => exact k
 | loop st pend ts sz ps asg body => obtain ⟨fn, arr, df, h1, h2⟩ := k; exact ⟨fn, arr, df, h1, h2.mono le⟩
 | dfr => exact k
 | bag es => obtain ⟨arr, cl, es', h1, h2, h3⟩ := k; exact ⟨arr, cl, es', h1, h2.mono le, h3⟩
 | tcells ty c n op =>
  obtain ⟨h1, h2, h3, arr, h4, h5, h6, h7⟩ := k
  exact ⟨h1, h2, h3, arr, h4, h5, h6, fun k hk => let ⟨v, v', a, b, c⟩ := h7 k hk; ⟨v, v', a, b, c.mono le⟩⟩
theorem OR.world {i : Im} {o : AObj} (e : w'.heap[i.c]? = w.heap[i.c]?) (k : OR φ i w o) : OR φ i w' o := by
 cases o <;> simpa only [OR, World.frozen?, e] using k
theorem OR.ex {i : Im} {o : AObj} (k : OR φ i w o) : ∃ x, w.heap[i.c]? = some x := by
 cases o with
 | cells c n op ro => obtain ⟨_, _, _, arr, el, ⟨fz, h4, _⟩, _⟩ := k; exact ⟨_, h4⟩
 | map es clock ro => obtain ⟨arr, h1, _⟩ := k; exact ⟨_, h1⟩
 | iter m since seen st => obtain ⟨_, m', h1, h2⟩ := k; exact ⟨_, h1⟩
 | sit s p => exact ⟨_, k.2⟩
 | loop st pend ts sz ps asg body => obtain ⟨fn, arr, df, h1, h2⟩ := k; exact ⟨_, h1⟩
 | dfr => exact ⟨_, k⟩
 | bag es => obtain ⟨arr, cl, es', h1, _⟩ := k; exact ⟨_, h1⟩
 | tcells ty c n op => obtain ⟨_, _, _, arr, h4, _⟩ := k; exact ⟨_, h4⟩
def putW (w : World) (c : Nat) (x : Obj) : World := { w with heap := w.heap.setIfInBounds c x }
theorem putW_same {c : Nat} {x : Obj} (hc : c < w.heap.size) : (putW w c x).heap[c]? = some x := by simp [putW, hc]
theorem putW_other {c k : Nat} {x : Obj} (hk : k ≠ c) : (putW w c x).heap[k]? = w.heap[k]? := by simp [putW, Array.getElem?_setIfInBounds_ne (Ne.symm hk)]
theorem putW_size {c : Nat} {x : Obj} : (putW w c x).heap.size = w.heap.size := by simp [putW]
theorem setCell_put {b o : Nat} {v : Value} {arr : Array Value} {el : TypeId} {fr : Nat × Nat} (hb : w.heap[b]? = some (.cells arr el fr)) :
   w.setCell ⟨b, o, none⟩ v = putW w b (.cells (arr.setIfInBounds o v) el fr) := by
 unfold World.setCell putW
 congr 1
 apply Array.ext_getElem?
 intro k
 have hlt := (Array.getElem?_eq_some_iff.1 hb).1
 rw [Array.getElem?_modify, Array.getElem?_setIfInBounds]
 by_cases e : b = k
 · subst e; rw [if_pos rfl, if_pos rfl, if_pos hlt, hb]; rfl
 · rw [if_neg e, if_neg e]
theorem R.put (r : R w0 φ h w) {b : Nat} {i : Im} {o o' : AObj} {x : Obj} (hi : φ b = some i) (ho : h.m.get b = some o) (hro : o.ro = false)
   (hx : ∀ w', w'.heap[i.c]? = some x → OR φ i w' o') : R w0 φ { h with m := h.m.set b (some o') } (putW w i.c x) := by
 have hlt := (r.lt b i hi).1
 have hb : T.Ok (b) := trivial
 have hget : ∀ k, (h.m.set b (some o')).get k = if k = b then some o' else h.m.get k := fun k => T.get_set k
 have back : ∀ {k : Nat} {o2 : AObj}, (h.m.set b (some o')).get k = some o2 → ∃ o3, h.m.get k = some o3 ∧ (k ≠ b → o2 = o3) ∧ (k = b → o2 = o') := by
   intro k o2 hk
   rw [hget] at hk
   by_cases e : k = b
   · subst e; rw [if_pos rfl] at hk; cases hk; exact ⟨o, ho, fun hn => (hn rfl).elim, fun _ => rfl⟩
   · rw [if_neg e] at hk; exact ⟨o2, hk, fun _ => rfl, fun e' => (e e').elim⟩
 refine ⟨fun k j o2 hj hk => ?_, fun k j o2 hj hk hr => ?_, fun k k' j j' o2 o3 hj hj' hk hk' hr hc => ?_, fun k j hj => ⟨by rw [putW_size]; exact (r.lt k j hj).1, (r.lt k j hj).2⟩, r.nx, ?_⟩
 · obtain ⟨o3, h3, h4, h5⟩ := back hk
   by_cases e : k = b
   · subst e
     rw [h5 rfl]
     rw [hi] at hj; cases hj
     exact hx _ (putW_same hlt)
   · rw [h4 e]
     exact (r.dom k j o3 hj h3).world (putW_other (fun hc => e (r.inj b k i j o o3 hi hj ho h3 hro hc.symm).symm))
 · obtain ⟨o3, h3, h4, h5⟩ := back hk
   by_cases e : k = b
   · subst e
     rw [hi] at hj; cases hj
     exact r.low k i o hi ho hro
   · rw [h4 e] at hr; exact r.low k j o3 hj h3 hr
 · obtain ⟨p, h3, h4, _⟩ := back hk
   obtain ⟨p', h3', _⟩ := back hk'
   refine r.inj k k' j j' p p' hj hj' h3 h3' ?_ hc
   by_cases e : k = b
   · subst e; rw [ho] at h3; cases h3; exact hro
   · rw [← h4 e]; exact hr
 · have hl := r.low b i o hi ho hro
   exact r.below.trans ⟨rfl, rfl, rfl, by rw [putW_size]; exact Nat.le_refl _, fun k hk => putW_other (by omega)⟩
theorem R.new (r : R w0 φ h w) {i : Im} {o : AObj} {x : Obj} (hc : i.c = w.heap.size) (hn : T.Ok (h.next)) (hx : ∀ φ' w', Le φ φ' → w'.heap[i.c]? = some x → OR φ' i w' o) :
   ∃ φ', Le φ φ' ∧ φ' h.next = some i ∧ R w0 φ' ⟨h.m.set h.next (some o), h.next + 1⟩ (w.alloc x) ∧ ∀ b j, φ' b = some j → φ b = some j ∨ b = h.next := by
 refine ⟨fun b => if b = h.next then some i else φ b, ?_, if_pos rfl, ?_, fun b j hb => ?_⟩
 rotate_left 2
 · by_cases e : b = h.next
   · exact .inr e
   · exact .inl (by simpa [e] using hb)
 · intro b j hj
   have := (r.lt b j hj).2
   show (if b = h.next then some i else φ b) = some j
   rw [if_neg (by omega)]; exact hj
 · have le : Le φ (fun b => if b = h.next then some i else φ b) := by
     intro b j hj
     have := (r.lt b j hj).2
     show (if b = h.next then some i else φ b) = some j
     rw [if_neg (by omega)]; exact hj
   have hnew : (w.alloc x).heap[i.c]? = some x := by
     show (w.heap.push x)[i.c]? = some x
     rw [hc]; simp
   have hold : ∀ k, k < w.heap.size → (w.alloc x).heap[k]? = w.heap[k]? := fun k hk => Below.heap_alloc w x k hk
   have hget : ∀ k, (h.m.set h.next (some o)).get k = if k = h.next then some o else h.m.get k := fun k => T.get_set k
   refine ⟨fun k j o2 hj hk => ?_, fun k j o2 hj hk hr => ?_, fun k k' j j' o2 o3 hj hj' hk hk' hr hcc => ?_, fun k j hj => ?_, hn, r.below.trans ⟨rfl, rfl, rfl, by simp, fun k hk => hold k (Nat.lt_of_lt_of_le hk r.below.size)⟩⟩
   · rw [hget] at hk
     by_cases e : k = h.next
     · subst e; rw [if_pos rfl] at hk; cases hk
       rw [if_pos rfl] at hj; cases hj
       exact hx _ _ le hnew
     · rw [if_neg e] at hk hj
       exact ((r.dom k j o2 hj hk).world (hold _ (r.lt k j hj).1)).mono le
   · rw [hget] at hk
     by_cases e : k = h.next
     · subst e
       rw [if_pos rfl] at hj; cases hj
       rw [hc]; exact r.below.size
     · rw [if_neg e] at hk hj
       exact r.low k j o2 hj hk hr
   · rw [hget] at hk hk'
     by_cases e : k = h.next
     · by_cases e' : k' = h.next
       · rw [e, e']
       · subst e
         rw [if_pos rfl] at hj; cases hj
         rw [if_neg e'] at hj'
         have := (r.lt k' j' hj').1
         omega
     · by_cases e' : k' = h.next
       · subst e'
         rw [if_pos rfl] at hj'; cases hj'
         rw [if_neg e] at hj
         have := (r.lt k j hj).1
         omega
       · rw [if_neg e] at hk hj
         rw [if_neg e'] at hk' hj'
         exact r.inj k k' j j' o2 o3 hj hj' hk hk' hr hcc
   · by_cases e : k = h.next
     · subst e; rw [if_pos rfl] at hj; cases hj
       rw [hc]; simp
     · rw [if_neg e] at hj
       have := r.lt k j hj
       refine ⟨?_, ?_⟩
       · simp; omega
       · show k < h.next + 1; omega
theorem R.drew (r : R w0 φ h w) : R w0 φ h w.drew := ⟨fun b i o h1 h2 => (r.dom b i o h1 h2).world rfl, r.low, r.inj, r.lt, r.nx, r.below.drew⟩
theorem R.drop (r : R w0 φ h w) (b : Nat) (_hb : T.Ok (b)) : R w0 φ { h with m := h.m.set b none } w := by
 have hget : ∀ {k o}, (h.m.set b none).get k = some o → h.m.get k = some o := by
  intro k o hk
  rw [T.get_set] at hk
  by_cases e : k = b
  · rw [if_pos e] at hk; cases hk
  · rw [if_neg e] at hk; exact hk
 exact ⟨fun k j o hj hk => r.dom k j o hj (hget hk), fun k j o hj hk hr => r.low k j o hj (hget hk) hr, fun k k' j j' o o' hj hj' hk hk' hr hc => r.inj k k' j j' o o' hj hj' (hget hk) (hget hk') hr hc, r.lt, r.nx, r.below⟩
def AH.cell (h : AH) (a : Addr) : Option Value :=
 match h.m.get a.block with
 | some (.cells c n _ _) => if a.off < n then (match a.spot with | none => c.get a.off | some _ => none) else none
 | some (.tcells _ c n _) => if a.off < n then (match a.spot with | none => c.get a.off | some _ => none) else none
 | _ => none
theorem R.cell (r : R w0 φ h w) {a : Addr} {i : Im} {v : Value} (hi : φ a.block = some i) (hv : h.cell a = some v) :
   ∃ v', w.cell? ⟨i.c, a.off + i.d, none⟩ = some v' ∧ w.frozen? ⟨i.c, a.off + i.d, none⟩ = false ∧ VR φ v v' := by
 unfold AH.cell at hv
 split at hv
 · rename_i c n op ro ho
   by_cases hn : a.off < n
   · rw [if_pos hn] at hv
     cases hs : a.spot with
     | some s => rw [hs] at hv; cases hv
     | none =>
      rw [hs] at hv
      obtain ⟨h1, h2, h3, arr, el, ⟨fz, h4, _, hfr⟩, h5, h6, h7⟩ := r.dom _ _ _ hi ho
      obtain ⟨u, v', hu, hv', hr⟩ := h7 _ hn
      rw [hu] at hv; cases hv
      refine ⟨v', ?_, hfr _ hn, hr⟩
      simp only [World.cell?, h4]; simpa using hv'
   · rw [if_neg hn] at hv; cases hv
 · rename_i ty c n op ho
   by_cases hn : a.off < n
   · rw [if_pos hn] at hv
     cases hs : a.spot with
     | some s => rw [hs] at hv; cases hv
     | none =>
      rw [hs] at hv
      obtain ⟨h1, h2, h3, arr, h4, h5, h6, h7⟩ := r.dom _ _ _ hi ho
      obtain ⟨u, v', hu, hv', hr⟩ := h7 _ hn
      rw [hu] at hv; cases hv
      refine ⟨v', ?_, by simp [World.frozen?, h4], hr⟩
      simp only [World.cell?, h4, h3]; simpa using hv'
   · rw [if_neg hn] at hv; cases hv
 · cases hv
def AH.setc (h : AH) (a : Addr) (v : Value) : Option AH :=
 match h.m.get a.block with
 | some (.cells c n op false) => if a.off < n then (match a.spot with | none => some { h with m := h.m.set a.block (some (.cells (c.set a.off (some v)) n op false)) } | some _ => none) else none
 | some (.tcells ty c n op) => if a.off < n then (match a.spot with | none => some { h with m := h.m.set a.block (some (.tcells ty (c.set a.off (some v)) n op)) } | some _ => none) else none
 | _ => none
theorem R.setc (r : R w0 φ h w) {a : Addr} {i : Im} {v v' : Value} (hi : φ a.block = some i) (hs : h.setc a v = some h') (hv : VR φ v v') :
   R w0 φ h' (w.setCell ⟨i.c, a.off + i.d, none⟩ v') ∧ (w.cell? ⟨i.c, a.off + i.d, none⟩).isSome = true ∧ w.frozen? ⟨i.c, a.off + i.d, none⟩ = false := by
 unfold AH.setc at hs
 split at hs
 · rename_i c n op ho
   by_cases hn : a.off < n
   · rw [if_pos hn] at hs
     cases hsp : a.spot with
     | some s => rw [hsp] at hs; cases hs
     | none =>
      rw [hsp] at hs; cases hs
      obtain ⟨h1, h2, h3, arr, el, ⟨fz, h4, hro, _⟩, h5, h6, h7⟩ := r.dom _ _ _ hi ho
      cases hro rfl
      rw [setCell_put h4]
      refine ⟨r.put hi ho rfl (fun w' hw' => ⟨h1, h2, h3, _, el, ⟨(0, 0), hw', fun _ => rfl, fun k _ => by simp [World.frozen?, hw']⟩, by simpa using h5, h6, fun k hk => ?_⟩), ?_, ?_⟩
      · obtain ⟨u, u', hu, hu', hr⟩ := h7 k hk
        by_cases e : k = a.off
        · subst e
          refine ⟨v, v', by rw [T.get_set, if_pos rfl], ?_, hv⟩
          have := (Array.getElem?_eq_some_iff.1 hu').1
          simp [this]
        · refine ⟨u, u', by rw [T.get_set, if_neg e]; exact hu, ?_, hr⟩
          rw [Array.getElem?_setIfInBounds_ne (by omega)]; exact hu'
      · simp only [World.cell?, h4]
        obtain ⟨u, u', hu, hu', hr⟩ := h7 _ hn
        simp [hu']
      · simp only [World.frozen?, h4]; simp
   · rw [if_neg hn] at hs; cases hs
 · rename_i ty c n op ho
   by_cases hn : a.off < n
   · rw [if_pos hn] at hs
     cases hsp : a.spot with
     | some s => rw [hsp] at hs; cases hs
     | none =>
      rw [hsp] at hs; cases hs
      obtain ⟨h1, h2, h3, arr, h4, h5, h6, h7⟩ := r.dom _ _ _ hi ho
      rw [setCell_put h4]
      refine ⟨r.put hi ho rfl (fun w' hw' => ⟨h1, h2, h3, _, hw', by simpa using h5, h6, fun k hk => ?_⟩), ?_, ?_⟩
      · obtain ⟨u, u', hu, hu', hr⟩ := h7 k hk
        by_cases e : k = a.off
        · subst e
          refine ⟨v, v', by rw [T.get_set, if_pos rfl], ?_, hv⟩
          have := (Array.getElem?_eq_some_iff.1 hu').1
          simp [h3, this]
        · refine ⟨u, u', by rw [T.get_set, if_neg e]; exact hu, ?_, hr⟩
          rw [Array.getElem?_setIfInBounds_ne (by omega)]; exact hu'
      · simp only [World.cell?, h4, h3]
        obtain ⟨u, u', hu, hu', hr⟩ := h7 _ hn
        simp [hu']
      · simp only [World.frozen?, h4]; simp
   · rw [if_neg hn] at hs; cases hs
 · cases hs
def AH.cells (h : AH) (a : Addr) : Nat → Nat → Option (List Value)
 | _, 0 => some []
 | i, n + 1 => match h.cell { a with off := a.off + i } with
  | some v => match h.cells a (i + 1) n with
   | some l => some (v :: l)
   | none => none
  | none => none
theorem R.cells (r : R w0 φ h w) {a : Addr} {i : Im} (hi : φ a.block = some i) : ∀ (n k : Nat) {l : List Value}, h.cells a k n = some l →
  ∃ l', l'.length = n ∧ (∀ j v, l'[j]? = some v → w.cell? ⟨i.c, a.off + i.d + (k + j), none⟩ = some v) ∧ LR φ l l' := by
 intro n
 induction n with
 | zero => intro k l hl; simp only [AH.cells] at hl; cases hl; exact ⟨[], rfl, fun j v hj => by simp at hj, .nil⟩
 | succ n ih =>
  intro k l hl
  simp only [AH.cells] at hl
  split at hl
  · rename_i v hv
    split at hl
    · rename_i m hm
      cases hl
      obtain ⟨v', h1, _, h2⟩ := r.cell (a := { a with off := a.off + k }) hi hv
      obtain ⟨m', h3, h4, h5⟩ := ih (k + 1) hm
      refine ⟨v' :: m', by simp [h3], fun j u hj => ?_, .cons h2 h5⟩
      cases j with
      | zero =>
       simp at hj; subst hj
       rw [show a.off + i.d + (k + 0) = a.off + k + i.d by omega]
       exact h1
      | succ j =>
       have := h4 j u (by simpa using hj)
       rw [show a.off + i.d + (k + (j + 1)) = a.off + i.d + (k + 1 + j) by omega]
       exact this
    · cases hl
  · cases hl
theorem addEq (b o k : Nat) : (⟨b, o, none⟩ : Addr).add k = ⟨b, o + k, none⟩ := by unfold Addr.add; split <;> simp_all
theorem run_loadCells_at {b o n : Nat} {l : List Value} (hl : l.length = n) (hc : ∀ j v, l[j]? = some v → w.cell? ⟨b, o + j, none⟩ = some v) : (loadCells ⟨b, o, none⟩ n).run P w = .ok ⟨l⟩ w := by
 subst hl
 exact run_loadCells_list _ _ _ (fun j v hj => by rw [addEq]; exact hc j v hj)
def AH.setcs (h : AH) (a : Addr) : Nat → List Value → Option AH
 | _, [] => some h
 | i, v :: l => if v.oneCell' then (match h.setc { a with off := a.off + i } v with
  | some h => h.setcs a (i + 1) l
  | none => none) else none
theorem R.setcs {a : Addr} {i : Im} (hi : φ a.block = some i) : ∀ (l : List Value) (k : Nat) {l' : List Value} {h : AH} {w : World}, R w0 φ h w → h.setcs a k l = some h' → LR φ l l' →
  ∃ w', (storeCells ⟨i.c, a.off + i.d, none⟩ l' k).run P w = .ok () w' ∧ R w0 φ h' w' := by
 intro l
 induction l with
 | nil => intro k l' h w r hs hl; cases hl; simp only [AH.setcs] at hs; cases hs; exact ⟨w, by simp [storeCells], r⟩
 | cons v l ih =>
  intro k l' h w r hs hl
  cases hl with
  | cons hv ht =>
   rename_i v' l'
   simp only [AH.setcs] at hs
   split at hs
   · rename_i h1
     split at hs
     · rename_i h2 hset
       obtain ⟨r2, hc, hf⟩ := r.setc (a := { a with off := a.off + k }) hi hset hv
       obtain ⟨w', hw, r'⟩ := ih (k + 1) r2 hs ht
       refine ⟨w', ?_, r'⟩
       obtain ⟨u, hu⟩ := Option.isSome_iff_exists.1 hc
       unfold storeCells
       have e : (⟨i.c, a.off + i.d, none⟩ : Addr).add k = ⟨i.c, a.off + k + i.d, none⟩ := by rw [addEq]; congr 1; omega
       rw [e]
       have h1' : v'.oneCell' = true := by rw [hv.one]; exact h1
       rw [Sem.run_bind, run_store _ _ _ _ _ h1', show w.cell? ⟨i.c, a.off + k + i.d, none⟩ = some u from hu]
       simp only [show w.frozen? ⟨i.c, a.off + k + i.d, none⟩ = false from hf]
       simpa [Result.andThen] using hw
     · cases hs
   · cases hs
def AH.newc (h : AH) (l : List Value) : Option (Nat × AH) :=
 if true = true then some (h.next, ⟨h.m.set h.next (some (.cells (T.fill l 0 .e) l.length 0 false)), h.next + 1⟩) else none
end
end Go.X
namespace Go.X
noncomputable section
open Go Go.RowKit
structure Nx (φ φ' : Phi) (h h' : AH) : Prop where
 le : Le φ φ'
 next : h.next ≤ h'.next
 ghost : ∀ b, φ b = none → b < h.next → φ' b = none ∧ h'.m.get b = h.m.get b
theorem Nx.refl (φ : Phi) (h : AH) : Nx φ φ h h := ⟨Le.refl φ, Nat.le_refl _, fun _ h _ => ⟨h, rfl⟩⟩
theorem Nx.trans {φ φ' φ'' : Phi} {h h' h'' : AH} (a : Nx φ φ' h h') (b : Nx φ' φ'' h' h'') : Nx φ φ'' h h'' :=
 ⟨a.le.trans b.le, Nat.le_trans a.next b.next, fun k hk hl => by
  obtain ⟨h1, h2⟩ := a.ghost k hk hl
  obtain ⟨h3, h4⟩ := b.ghost k h1 (Nat.lt_of_lt_of_le hl a.next)
  exact ⟨h3, h4.trans h2⟩⟩
variable {w0 w w' : World} {φ φ' : Phi} {h h' : AH} {P : Program} {n : Nat} {t : T Value}
def SimV (w0 : World) (P : Program) (φ : Phi) (h : AH) (w : World) (s : Sem Value) (v : Value) (h' : AH) : Prop :=
 ∃ v' w' φ', s.run P w = .ok v' w' ∧ Nx φ φ' h h' ∧ R w0 φ' h' w' ∧ VR φ' v v'
theorem SimV.pure (r : R w0 φ h w) {v v' : Value} (hv : VR φ v v') : SimV w0 P φ h w (Pure.pure v') v h := ⟨v', w, φ, rfl, .refl φ h, r, hv⟩
theorem SimV.here (r : R w0 φ h w) {v v' : Value} {s : Sem Value} (hs : s.run P w = .ok v' w) (hv : VR φ v v') : SimV w0 P φ h w s v h := ⟨v', w, φ, hs, .refl φ h, r, hv⟩
def pureRun {α : Type} (P : Program) : Sem α → Option α
 | .pure a => some a
 | .program k => pureRun P (k P)
 | .mark _ k => pureRun P k
 | _ => none
theorem run_of_pure {α : Type} {e : Sem α} {a : α} (h : pureRun P e = some a) (w : World) : e.run P w = .ok a w := by
 induction e with
 | pure x => simp only [pureRun] at h; cases h; rfl
 | program k ih => simp only [pureRun] at h; exact ih P h
 | mark m k ih => simp only [pureRun] at h; exact ih h
 | _ => simp [pureRun] at h
def aEv (t : T Value) : Operand → Option Value
 | .tmp k => some ((t.get k).getD undef)
 | .const v => if pfv v then some v else none
 | .func f => some (.func (.func f) #[] #[])
 | .global _ => none
theorem VR.undef : VR φ undef undef := .tuple' .nil
theorem FR.at {a : Array Value} (f : FR φ n t a) (k : Nat) : k < n → VR φ ((t.get k).getD Go.undef) (a.getD k Go.undef) := by
 intro hk
 have : a[k]? = some (a.getD k Go.undef) := by
  rw [Array.getD_eq_getD_getElem?, Array.getElem?_eq_getElem (by rw [f.size]; exact hk)]; simp
 exact f.get k _ this
def opnOk (n : Nat) : Operand → Bool
 | .tmp k => decide (k < n)
 | _ => true
theorem aEv_ok {a : Act} (f : FR φ n t a.tmps) {x : Operand} {v : Value} (hn : opnOk n x = true) (h : aEv t x = some v) : VR φ v (a.eval x) := by
 cases x with
 | tmp k => simp only [aEv] at h; cases h; exact f.at k (by simpa [opnOk] using hn)
 | const v =>
  simp only [aEv] at h
  split at h
  · cases h; exact pfv_refl φ ‹_›
  · cases h
 | func k => simp only [aEv] at h; cases h; exact .func' (.same (fun l e => by cases e)) .nil .nil
 | global g => simp [aEv] at h
def isAg : TypeDesc → Bool
 | .struct _ | .array _ _ => true
 | _ => false
theorem rU {T : TypeId} {d : TypeDesc} (h : P.underlying T = some d) (w : World) : (underlying T).run P w = .ok d w := run_underlying h w
theorem rI {T : TypeId} {d : TypeInfo} (h : P.info? T = some d) (w : World) : (typeInfo T).run P w = .ok d w := by simp [typeInfo, h]
theorem rS {T : TypeId} {d : TypeInfo} (h : P.info? T = some d) (w : World) : (sizeOf T).run P w = .ok d.size w := by simp [sizeOf, typeInfo, h]
theorem rZ {T : TypeId} {d : TypeInfo} {z : Value} (h : P.info? T = some d) (hz : d.zero = some z) (w : World) : (zeroValue T).run P w = .ok z w := by simp [zeroValue, typeInfo, h, hz]
theorem rA {T : TypeId} {d : TypeDesc} (h : P.underlying T = some d) (w : World) : (isAgg T).run P w = .ok (isAg d) w := by
 unfold isAgg
 simp only [Sem.run_bind, rU h, Result.andThen_ok]
 cases d <;> simp [isAg]
def szOf (P : Program) (T : TypeId) : Option Nat := (P.info? T).map (·.size)
theorem rSz {T : TypeId} {k : Nat} (h : szOf P T = some k) (w : World) : (sizeOf T).run P w = .ok k w := by
 unfold szOf at h
 obtain ⟨i, h1, h2⟩ := Option.map_eq_some_iff.1 h
 rw [← h2]; exact rS h1 w
def zeroOf (P : Program) (T : TypeId) : Option Value := match P.info? T with
 | some i => match i.zero with
  | some z => if pfv z then some z else none
  | none => none
 | none => none
theorem rZero {T : TypeId} {z : Value} (h : zeroOf P T = some z) (w : World) : (zeroValue T).run P w = .ok z w ∧ pfv z = true := by
 unfold zeroOf at h
 split at h
 · rename_i i hi
   split at h
   · rename_i z' hz
     split at h
     · cases h; exact ⟨rZ hi hz w, ‹_›⟩
     · cases h
   · cases h
 · cases h
theorem Nx.new (le : Le φ φ') {o : AObj} (hb : ∀ b i, φ' b = some i → φ b = some i ∨ b = h.next) (_hn : T.Ok (h.next)) : Nx φ φ' h ⟨h.m.set h.next (some o), h.next + 1⟩ :=
  ⟨le, Nat.le_succ _, fun b h1 h2 => ⟨by
    cases hb' : φ' b with
    | none => rfl
    | some i => rcases hb b i hb' with h3 | h3
                · rw [h1] at h3; cases h3
                · omega, by
    show (h.m.set h.next (some o)).get b = _
    rw [T.get_set, if_neg (by omega)]⟩⟩
def aLoad (P : Program) (T : TypeId) (a : Addr) (h : AH) : Option Value := match P.underlying T with
 | some d => if isAg d then (match szOf P T with
  | some k => (match a.spot, h.cells a 0 k with
   | none, some l => some (.agg ⟨l⟩)
   | _, _ => none)
  | none => none) else h.cell a
 | none => none
theorem run_loadVar_at (r : R w0 φ h w) {a : Addr} {i : Im} {T : TypeId} {v : Value} (hi : φ a.block = some i) (hs : aLoad P T a h = some v) :
   ∃ v', (loadVar T ⟨i.c, a.off + i.d, none⟩).run P w = .ok v' w ∧ VR φ v v' := by
 unfold aLoad at hs
 split at hs
 · rename_i d hd
   unfold loadVar
   simp only [Sem.run_bind, rA hd, Result.andThen_ok]
   split at hs
   · rename_i hag
     split at hs
     · rename_i k hk
       split at hs
       · rename_i l hsp hl
         cases hs
         obtain ⟨l', h1, h2, h3⟩ := r.cells hi _ _ hl
         rw [hag]
         simp only [if_true, Sem.run_bind, rSz hk, Result.andThen_ok]
         rw [run_loadCells_at h1 (fun j v hj => by have := h2 j v hj; rwa [Nat.zero_add] at this)]
         exact ⟨_, rfl, .agg' h3⟩
       · cases hs
     · cases hs
   · rename_i hag
     obtain ⟨v', h1, _, h2⟩ := r.cell hi hs
     simp only [Bool.not_eq_true] at hag
     rw [hag]
     simp only [Bool.false_eq_true, if_false, run_load, h1]
     exact ⟨v', rfl, h2⟩
 · cases hs
theorem VR.ptr_inv {v : Value} {a : Addr} (hv : VR φ (.pointer (some a)) v) : ∃ i, φ a.block = some i ∧ a.spot = none ∧ v = .pointer (some ⟨i.c, a.off + i.d, none⟩) := by
 cases hv with
 | ptr i hi hs => exact ⟨i, hi, hs, rfl⟩
theorem sim_load (r : R w0 φ h w) {a : Addr} {T : TypeId} {v v' : Value} (hs : aLoad P T a h = some v) (hv : VR φ (.pointer (some a)) v') : SimV w0 P φ h w (Instr.loadAt T v') v h := by
 obtain ⟨i, hi, _, rfl⟩ := hv.ptr_inv
 obtain ⟨u, h1, h2⟩ := run_loadVar_at r hi hs
 exact .here r (by simpa [Instr.loadAt, Instr.sureAddr] using h1) h2
theorem Nx.put {b : Nat} {i : Im} {o : AObj} (hi : φ b = some i) (hb : T.Ok (b)) : Nx φ φ h { h with m := h.m.set b (some o) } :=
 ⟨Le.refl φ, Nat.le_refl _, fun k hk _ => ⟨hk, by
  show (h.m.set b (some o)).get k = _
  rw [T.get_set, if_neg (fun e => by subst e; rw [hi] at hk; cases hk)]⟩⟩
theorem setc_shape {a : Addr} {v : Value} (hs : h.setc a v = some h') : ∃ o, h' = { h with m := h.m.set a.block (some o) } := by
 unfold AH.setc at hs
 split at hs
 · split at hs
   · split at hs
     · cases hs; exact ⟨_, rfl⟩
     · cases hs
   · cases hs
 · split at hs
   · split at hs
     · cases hs; exact ⟨_, rfl⟩
     · cases hs
   · cases hs
 · cases hs
theorem Nx.setcs {a : Addr} {i : Im} (hi : φ a.block = some i) (hb : T.Ok (a.block)) : ∀ (l : List Value) (k : Nat) {h : AH}, h.setcs a k l = some h' → Nx φ φ h h' := by
 intro l
 induction l with
 | nil => intro k h hs; simp only [AH.setcs] at hs; cases hs; exact .refl φ _
 | cons v l ih =>
  intro k h hs
  simp only [AH.setcs] at hs
  split at hs
  · split at hs
    · rename_i h2 hset
      obtain ⟨o, rfl⟩ := setc_shape hset
      exact (Nx.put hi hb).trans (ih _ hs)
    · cases hs
  · cases hs
def aStore (P : Program) (T : TypeId) (a : Addr) (v : Value) (h : AH) : Option AH := match szOf P T with
 | some k => if (cellsL v).length = k then h.setcs a 0 (cellsL v) else none
 | none => none
theorem sim_store (r : R w0 φ h w) {a : Addr} {T : TypeId} {v v' p : Value} (hs : aStore P T a v h = some h') (hp : VR φ (.pointer (some a)) p) (hv : VR φ v v') :
   ∃ w', (Instr.storeAt T p v').run P w = .ok () w' ∧ Nx φ φ h h' ∧ R w0 φ h' w' := by
 obtain ⟨i, hi, _, rfl⟩ := hp.ptr_inv
 unfold aStore at hs
 split at hs
 · rename_i k hk
   split at hs
   · rename_i hl
     obtain ⟨w', h1, h2⟩ := R.setcs hi _ 0 r hs hv.cells
     refine ⟨w', ?_, .setcs hi trivial _ _ hs, h2⟩
     have hc : v'.cells.size = k := by rw [cells_eq]; simp [← hv.cells.length, hl]
     simp only [Instr.storeAt, Instr.sureAddr, storeVar, Sem.run_bind, Sem.run_pure, Result.andThen_ok, rSz hk, hc, ne_eq, not_true_eq_false, if_false]
     rw [cellsL_eq]
     exact h1
   · cases hs
 · cases hs
end
end Go.X
namespace Go.X
noncomputable section
open Go Go.RowKit
variable {w0 w w' : World} {φ φ' : Phi} {h h' : AH} {P : Program}
def aField (P : Program) (s : TypeId) (a : Addr) (f : Nat) : Option Value := match P.underlying s with
 | some (.struct fs) => match fs[f]? with
  | some fd => match szOf P fd.type, a.spot with
   | some (_ + 1), none => some (.pointer (some ⟨a.block, a.off + fd.offset, none⟩))
   | _, _ => none
  | none => none
 | _ => none
theorem sim_field (r : R w0 φ h w) {s : TypeId} {a : Addr} {f : Nat} {v p : Value} (hs : aField P s a f = some v) (hp : VR φ (.pointer (some a)) p) : SimV w0 P φ h w (Instr.fieldAt s p f) v h := by
 obtain ⟨i, hi, _, rfl⟩ := hp.ptr_inv
 unfold aField at hs
 split at hs
 · rename_i fs hu
   split at hs
   · rename_i fd hf
     split at hs
     · rename_i k hk _
       cases hs
       refine .here r (v' := .pointer (some ⟨i.c, a.off + i.d + fd.offset, none⟩)) ?_ ?_
       · simp [Instr.fieldAt, run_underlying hu, hf, Instr.sureAddr, fieldPlace, rSz hk, addEq]
       · rw [show a.off + i.d + fd.offset = a.off + fd.offset + i.d by omega]
         exact .ptr (a := ⟨a.block, a.off + fd.offset, none⟩) i hi rfl
     · cases hs
   · cases hs
 · cases hs
theorem VR.sl_inv {a : Addr} {l c : Nat} {v : Value} (hv : VR φ (.slice (some a) l c) v) (h0 : c ≠ 0) (ho : c ≠ open_) :
  ∃ i, φ a.block = some i ∧ a.spot = none ∧ v = .slice (some ⟨i.c, a.off + i.d, none⟩) l c := by
 cases hv with
 | slice0 => exact (h0 rfl).elim
 | slice i hi hs hc => exact ⟨i, hi, hs, rfl⟩
 | opens => exact (ho rfl).elim
theorem VR.sl_inv0 {a : Addr} {l : Nat} {v : Value} (hv : VR φ (.slice (some a) l 0) v) : ∃ a', v = .slice (some a') l 0 := by
 cases hv with
 | slice0 => exact ⟨_, rfl⟩
 | slice i hi hs hc => exact ⟨_, rfl⟩
theorem VR.sl_invO {a : Addr} {l : Nat} {v : Value} (hv : VR φ (.slice (some a) l open_) v) :
  ∃ a' c' i, v = .slice (some a') l c' ∧ φ a.block = some i ∧ a.spot = none ∧ 0 < i.e ∧ l ≤ c' ∧ i.n ≤ a.off + c' * i.e ∧ a.off + i.d + c' * i.e ≤ i.sz ∧ (0 < c' → a' = ⟨i.c, a.off + i.d, none⟩) := by
 cases hv with
 | slice i hi hs hc => exact (hc rfl).elim
 | opens i hi hs ho hl hn hz ha => exact ⟨_, _, i, rfl, hi, hs, ho, hl, hn, hz, ha⟩
theorem VR.sl_some {a : Addr} {l c : Nat} {v : Value} (hv : VR φ (.slice (some a) l c) v) (h0 : c ≠ 0) (hl : l ≠ 0) :
   ∃ i c', φ a.block = some i ∧ a.spot = none ∧ v = .slice (some ⟨i.c, a.off + i.d, none⟩) l c' := by
 by_cases ho : c = open_
 · subst ho
   obtain ⟨a', c', i, rfl, hi, hs, _, hlc, _, _, ha⟩ := hv.sl_invO
   exact ⟨i, c', hi, hs, by rw [ha (by omega)]⟩
 · obtain ⟨i, hi, hs, rfl⟩ := hv.sl_inv h0 ho
   exact ⟨i, c, hi, hs, rfl⟩
def aIndex (P : Program) (T : TypeId) (x i : Value) : Option Value := match i with
 | .int _ j => match P.underlying T, x with
  | some (.slice el), .slice (some a) l c => if c ≠ 0 ∧ 0 ≤ j ∧ j < l then (match szOf P el with
   | some k => some (.pointer (some ⟨a.block, a.off + j.toNat * k, none⟩))
   | none => none) else none
  | some (.array l el), .pointer (some a) => if 0 ≤ j ∧ j < l then (match szOf P el with
   | some k => some (.pointer (some ⟨a.block, a.off + j.toNat * k, none⟩))
   | none => none) else none
  | _, _ => none
 | _ => none
theorem VR.int_inv {k : IntKind} {n : Int} {v : Value} (hv : VR φ (.int k n) v) : v = .int k n := by cases hv; rfl
theorem VR.bool_inv {b : Bool} {v : Value} (hv : VR φ (.bool b) v) : v = .bool b := by cases hv; rfl
theorem sim_index (r : R w0 φ h w) {T : TypeId} {x i v x' i' : Value} (hs : aIndex P T x i = some v) (hx : VR φ x x') (hi : VR φ i i') : SimV w0 P φ h w (Instr.indexAt T x' i') v h := by
 unfold aIndex at hs
 split at hs
 · rename_i k j
   obtain rfl := hi.int_inv
   split at hs
   · rename_i el a l c hu
     split at hs
     · rename_i hc
       split at hs
       · rename_i k hk
         cases hs
         obtain ⟨i, c', hi, hsp, rfl⟩ := hx.sl_some hc.1 (by omega)
         refine .here r (v' := .pointer (some ⟨i.c, a.off + i.d + j.toNat * k, none⟩)) ?_ ?_
         · simp [Instr.indexAt, asIntOf, run_underlying hu, hc.2.1, hc.2.2, rSz hk, addEq]
         · rw [show a.off + i.d + j.toNat * k = a.off + j.toNat * k + i.d by omega]
           exact .ptr (a := ⟨a.block, a.off + j.toNat * k, none⟩) i hi rfl
       · cases hs
     · cases hs
   · rename_i l el a hu
     split at hs
     · rename_i hc
       split at hs
       · rename_i k hk
         cases hs
         obtain ⟨i, hi, hsp, rfl⟩ := hx.ptr_inv
         refine .here r (v' := .pointer (some ⟨i.c, a.off + i.d + j.toNat * k, none⟩)) ?_ ?_
         · simp [Instr.indexAt, asIntOf, run_underlying hu, hc.1, hc.2, rSz hk, addEq, Instr.sureAddr]
         · rw [show a.off + i.d + j.toNat * k = a.off + j.toNat * k + i.d by omega]
           exact .ptr (a := ⟨a.block, a.off + j.toNat * k, none⟩) i hi rfl
       · cases hs
     · cases hs
   · cases hs
 · cases hs
def bnd (x : Option Value) (d : Nat) : Option Nat := match x with
 | none => some d
 | some (.int _ j) => if 0 ≤ j then some j.toNat else none
 | _ => none
theorem run_bounds {isS : Bool} {len cap l hh m : Nat} {lo hi mx : Option Value} (hm : bnd mx cap = some m) (hh' : bnd hi len = some hh) (hl : bnd lo 0 = some l) (h1 : l ≤ hh) (h2 : hh ≤ m) (h3 : m ≤ cap)
  (hmh : mx.isSome = true → hi.isSome = true) : (Instr.sliceBounds isS len cap lo hi mx).run P w = .ok (l, hh, m) w := by
 have key : ∀ {x : Value} {d r y : Nat} {c : BoundsCode}, bnd (some x) d = some r → r ≤ y → (Instr.sliceBound x y c).run P w = .ok r w := by
  intro x d r y c hb hy
  unfold bnd at hb
  split at hb
  · rename_i h; cases h
  · rename_i k j h; cases h
    split at hb
    · cases hb
      have : j ≤ (y : Int) := by omega
      simp [Instr.sliceBound, asIntOf, *]
    · cases hb
  · cases hb
 unfold Instr.sliceBounds
 cases mx with
 | none =>
  simp only [bnd] at hm; cases hm
  cases hi with
  | none =>
    simp only [bnd] at hh'; cases hh'
    cases lo with
    | none => simp only [bnd] at hl; cases hl; simp
    | some x => have := fun c => key (c := c) hl h1; simp [this]
  | some x =>
    have k1 := fun c => key (c := c) hh' h2
    cases lo with
    | none => simp only [bnd] at hl; cases hl; simp [k1]
    | some y => have := fun c => key (c := c) hl h1; simp [this, k1]
 | some z =>
  have k0 := fun c => key (c := c) hm h3
  cases hi with
  | none => simp at hmh
  | some x =>
    have k1 := fun c => key (c := c) hh' h2
    cases lo with
    | none => simp only [bnd] at hl; cases hl; simp [k1, k0]
    | some y => have := fun c => key (c := c) hl h1; simp [this, k1, k0]
def opOf (h : AH) (b : Nat) : Option (Nat × Nat) := match h.m.get b with
 | some (.cells _ n op false) => some (n, op)
 | some (.tcells _ _ n op) => some (n, op)
 | _ => none
theorem R.opOf (r : R w0 φ h w) {b n op : Nat} {i : Im} (hi : φ b = some i) (ho : opOf h b = some (n, op)) : i.n = n ∧ i.e = op := by
 unfold X.opOf at ho
 split at ho
 · rename_i c n' op' hg
   cases ho
   obtain ⟨h1, h2, _⟩ := r.dom _ _ _ hi hg
   exact ⟨h1, h2⟩
 · rename_i ty c n' op' hg
   cases ho
   obtain ⟨h1, h2, _⟩ := r.dom _ _ _ hi hg
   exact ⟨h1, h2⟩
 · cases ho
def mxOk (hi mx : Option Value) : Bool := !mx.isSome || hi.isSome
def aSlice (P : Program) (T : TypeId) (x : Value) (lo hi mx : Option Value) (h : AH) : Option Value :=
  if mxOk hi mx then match P.underlying T, x with
  | some (.slice el), .slice (some a) len cap => match szOf P el with
    | none => none
    | some k =>
      if cap = open_ then
        (match mx with
         | none => (match bnd hi len, bnd lo 0, opOf h a.block with
           | some hh, some l, some (n, op) => if l ≤ hh ∧ op = k ∧ (hh ≤ len ∨ a.off + hh * k ≤ n) then some (.slice (some ⟨a.block, a.off + l * k, none⟩) (hh - l) open_) else none
           | _, _, _ => none)
         | some _ => (match bnd mx 0, bnd hi len, bnd lo 0, opOf h a.block with
           | some m, some hh, some l, some (n, op) => if l ≤ hh ∧ hh ≤ m ∧ op = k ∧ a.off + m * k ≤ n ∧ m < open_ then
               some (.slice (some (if m = l then a else ⟨a.block, a.off + l * k, none⟩)) (hh - l) (m - l)) else none
           | _, _, _, _ => none))
      else (match bnd mx cap, bnd hi len, bnd lo 0 with
        | some m, some hh, some l => if l ≤ hh ∧ hh ≤ m ∧ m ≤ cap ∧ cap < open_ then some (.slice (some (if m = l then a else ⟨a.block, a.off + l * k, none⟩)) (hh - l) (m - l)) else none
        | _, _, _ => none)
  | some (.array n el), .pointer (some a) => (match szOf P el, bnd mx n, bnd hi n, bnd lo 0 with
    | some k, some m, some hh, some l => if l ≤ hh ∧ hh ≤ m ∧ m ≤ n ∧ n < open_ then some (.slice (some (if m = l then a else ⟨a.block, a.off + l * k, none⟩)) (hh - l) (m - l)) else none
    | _, _, _, _ => none)
  | _, _ => none
  else none
inductive OptR (φ : Phi) : Option Value → Option Value → Prop
 | none : OptR φ none none
 | some {v v' : Value} (h : VR φ v v') : OptR φ (some v) (some v')
theorem bnd_same {x x' : Option Value} {d r : Nat} (hx : OptR φ x x') (hb : bnd x d = some r) : bnd x' d = some r := by
 cases hx with
 | none => exact hb
 | some h =>
  unfold bnd at hb
  split at hb
  · rename_i e; cases e
  · rename_i k j e; cases e; obtain rfl := h.int_inv; exact hb
  · cases hb
theorem OptR.isSome {x x' : Option Value} (hx : OptR φ x x') : x'.isSome = x.isSome := by cases hx <;> rfl
theorem sub_mul_le {c l k off n : Nat} (hl : l ≤ c) (hn : n ≤ off + c * k) : n ≤ off + l * k + (c - l) * k := by
 rw [Nat.sub_mul]
 have := Nat.mul_le_mul_right k hl
 omega
theorem sim_slice (r : R w0 φ h w) {T : TypeId} {x v x' : Value} {lo hi mx lo' hi' mx' : Option Value} (hs : aSlice P T x lo hi mx h = some v) (hx : VR φ x x') (hlo : OptR φ lo lo') (hhi : OptR φ hi hi') (hmx : OptR φ mx mx') :
   SimV w0 P φ h w (Instr.sliceAt T x' lo' hi' mx') v h := by
 unfold aSlice at hs
 split at hs
 · rename_i hmo
   have hmo' : mx'.isSome = true → hi'.isSome = true := by rw [hmx.isSome, hhi.isSome]; unfold mxOk at hmo; cases hmx' : mx.isSome <;> simp_all
   split at hs
   · rename_i el a len cap hu
     split at hs
     · cases hs
     · rename_i k hk
       split at hs
       · rename_i hcap
         subst hcap
         obtain ⟨a', c', i, rfl, hi0, hsp, he, hlc, hn, hz, ha⟩ := hx.sl_invO
         split at hs
         · cases hmx
           split at hs
           · rename_i hh l n op h1 h2 h3
             obtain ⟨hin, hie⟩ := r.opOf hi0 h3
             split at hs
             · rename_i hc
               cases hs
               obtain ⟨hc1, hc2, hc3⟩ := hc
               subst hc2
               have hhc : hh ≤ c' := by
                 rcases hc3 with hc3 | hc3
                 · omega
                 · rw [hin, hie] at hn
                   have : hh * op ≤ c' * op := by omega
                   exact Nat.le_of_mul_le_mul_right this (by rw [← hie]; exact he)
               have hb := run_bounds (P := P) (w := w) (isS := true) (cap := c') (m := c') (mx := none) rfl (bnd_same hhi h1) (bnd_same hlo h2) hc1 hhc (Nat.le_refl _) (by simp)
               refine .here r (v' := .slice (some (if c' = l then a' else a'.add (l * op))) (hh - l) (c' - l)) ?_ ?_
               · simp [Instr.sliceAt, Instr.slice, run_underlying hu, hb, rSz hk]
                 split <;> rfl
               · rw [← hie]
                 refine .opens (a := ⟨a.block, a.off + l * i.e, none⟩) i hi0 rfl he (by omega) (sub_mul_le (by omega) hn) ?_ (fun hp => ?_)
                 · show a.off + l * i.e + i.d + (c' - l) * i.e ≤ i.sz
                   rw [Nat.sub_mul]
                   have := Nat.mul_le_mul_right i.e (show l ≤ c' by omega)
                   omega
                 · rw [if_neg (by omega), ha (by omega), addEq]
                   congr 1
                   show a.off + i.d + l * i.e = a.off + l * i.e + i.d
                   omega
             · cases hs
           · cases hs
         · rename_i z
           split at hs
           · rename_i m hh l n op h0 h1 h2 h3
             obtain ⟨hin, hie⟩ := r.opOf hi0 h3
             split at hs
             · rename_i hc
               cases hs
               obtain ⟨hc1, hc2, hc3, hc4, hc5⟩ := hc
               subst hc3
               have hmc : m ≤ c' := by
                 rw [hin, hie] at hn
                 have : m * op ≤ c' * op := by omega
                 exact Nat.le_of_mul_le_mul_right this (by rw [← hie]; exact he)
               have h0' : bnd mx' c' = some m := by
                 cases hmx with
                 | some hv =>
                   unfold bnd at h0
                   split at h0
                   · rename_i e; cases e
                   · rename_i k j e; cases e; obtain rfl := hv.int_inv; exact h0
                   · cases h0
               have hb := run_bounds (P := P) (w := w) (isS := true) (cap := c') (m := m) h0' (bnd_same hhi h1) (bnd_same hlo h2) hc1 hc2 hmc hmo'
               refine .here r (v' := .slice (some (if m = l then a' else a'.add (l * op))) (hh - l) (m - l)) ?_ ?_
               · simp [Instr.sliceAt, Instr.slice, run_underlying hu, hb, rSz hk]
                 split <;> rfl
               · by_cases e : m = l
                 · subst e
                   rw [if_pos rfl, if_pos rfl, Nat.sub_self]; exact .slice0 _ _ _
                 · rw [if_neg e, if_neg e, ha (by omega), addEq, show a.off + i.d + l * op = a.off + l * op + i.d by omega]
                   exact .slice (a := ⟨a.block, a.off + l * op, none⟩) i hi0 rfl (by omega)
             · cases hs
           · cases hs
       · rename_i hcap
         split at hs
         · rename_i m hh l h0 h1 h2
           split at hs
           · rename_i hc
             cases hs
             obtain ⟨hc1, hc2, hc3, hc4⟩ := hc
             have hb := run_bounds (P := P) (w := w) (isS := true) (cap := cap) (m := m) (bnd_same hmx h0) (bnd_same hhi h1) (bnd_same hlo h2) hc1 hc2 hc3 hmo'
             by_cases h00 : cap = 0
             · subst h00
               obtain ⟨a', rfl⟩ := hx.sl_inv0
               have : m = l := by omega
               subst this
               refine .here r (v' := .slice (some a') (hh - m) (m - m)) ?_ ?_
               · simp [Instr.sliceAt, Instr.slice, run_underlying hu, hb, rSz hk]
               · rw [if_pos rfl, Nat.sub_self]; exact .slice0 _ _ _
             · obtain ⟨i, hi0, hsp, rfl⟩ := hx.sl_inv h00 hcap
               refine .here r (v' := .slice (some (if m = l then ⟨i.c, a.off + i.d, none⟩ else (⟨i.c, a.off + i.d, none⟩ : Addr).add (l * k))) (hh - l) (m - l)) ?_ ?_
               · simp [Instr.sliceAt, Instr.slice, run_underlying hu, hb, rSz hk]
                 split <;> rfl
               · by_cases e : m = l
                 · subst e
                   rw [if_pos rfl, if_pos rfl, Nat.sub_self]; exact .slice0 _ _ _
                 · rw [if_neg e, if_neg e, addEq, show a.off + i.d + l * k = a.off + l * k + i.d by omega]
                   exact .slice (a := ⟨a.block, a.off + l * k, none⟩) i hi0 rfl (by omega)
           · cases hs
         · cases hs
   · rename_i n el a hu
     split at hs
     · rename_i k m hh l hk h0 h1 h2
       split at hs
       · rename_i hc
         cases hs
         obtain ⟨hc1, hc2, hc3, hc4⟩ := hc
         obtain ⟨i, hi0, hsp, rfl⟩ := hx.ptr_inv
         have hb := run_bounds (P := P) (w := w) (isS := false) (cap := n) (m := m) (bnd_same hmx h0) (bnd_same hhi h1) (bnd_same hlo h2) hc1 hc2 hc3 hmo'
         refine .here r (v' := .slice (some (if m = l then ⟨i.c, a.off + i.d, none⟩ else (⟨i.c, a.off + i.d, none⟩ : Addr).add (l * k))) (hh - l) (m - l)) ?_ ?_
         · simp [Instr.sliceAt, Instr.sureAddr, run_underlying hu, hb, rSz hk]
         · by_cases e : m = l
           · subst e
             rw [if_pos rfl, if_pos rfl, Nat.sub_self]; exact .slice0 _ _ _
           · rw [if_neg e, if_neg e, addEq, show a.off + i.d + l * k = a.off + l * k + i.d by omega]
             exact .slice (a := ⟨a.block, a.off + l * k, none⟩) i hi0 rfl (by omega)
       · cases hs
     · cases hs
   · cases hs
 · cases hs
end
end Go.X
namespace Go.X
noncomputable section
open Go Go.RowKit
variable {w0 w w' : World} {φ φ' : Phi} {h h' : AH} {P : Program}
def aRow (l : List Value) (h : AH) (len cap : Nat) : Option (Value × AH) := match h.newc l with
 | some (b, h') => if cap < open_ then some (.slice (some ⟨b, 0, none⟩) len cap, h') else none
 | none => none
def zrep : Nat → List Value → List Value
 | 0, _ => []
 | n + 1, z => z ++ zrep n z
theorem zrep_len : ∀ (n : Nat) (z : List Value), (zrep n z).length = n * z.length
 | 0, z => by simp [zrep]
 | n + 1, z => by simp [zrep, zrep_len n z, Nat.succ_mul, Nat.add_comm]
theorem zrep_get : ∀ (n : Nat) (z : List Value) (j : Nat), j < n * z.length → (zrep n z)[j]? = z[j % z.length]?
 | 0, z, j, h => by simp at h
 | n + 1, z, j, h => by
  rw [Nat.succ_mul] at h
  rw [zrep]
  by_cases hj : j < z.length
  · rw [List.getElem?_append_left hj, Nat.mod_eq_of_lt hj]
  · rw [List.getElem?_append_right (by omega), zrep_get n z _ (by omega)]
    rw [Nat.mod_eq_sub_mod (a := j) (by omega)]
theorem zrep_rel {z : List Value} (hz : LR φ z z) : ∀ n, LR φ (zrep n z) (zrep n z)
 | 0 => .nil
 | n + 1 => hz.append (zrep_rel hz n)
theorem zarr {z : Value} {k n : Nat} (hk : n = k * (cellsL z).length) : (Array.range n).map (fun i => z.cells[i % z.cells.size]!) = ⟨zrep k (cellsL z)⟩ := by
 subst hk
 rw [cells_eq]
 apply Array.ext_getElem?
 intro j
 rw [Array.getElem?_map]
 by_cases hj : j < k * (cellsL z).length
 · rw [Array.getElem?_range, if_pos hj]
   have hpos : 0 < (cellsL z).length := by
    rcases Nat.eq_zero_or_pos (cellsL z).length with h0 | h0
    · rw [h0] at hj; omega
    · exact h0
   have hm : j % (cellsL z).length < (cellsL z).length := Nat.mod_lt _ hpos
   have := zrep_get k (cellsL z) j hj
   have e : (⟨zrep k (cellsL z)⟩ : Array Value)[j]? = (zrep k (cellsL z))[j]? := by simp
   rw [e, this, List.getElem?_eq_getElem hm]
   simp [hm]
 · rw [Array.getElem?_range, if_neg hj]
   have e : (⟨zrep k (cellsL z)⟩ : Array Value)[j]? = (zrep k (cellsL z))[j]? := by simp
   rw [e, List.getElem?_eq_none (by rw [zrep_len]; omega)]
   rfl
theorem zcells {z : Value} {n : Nat} : Builtin.zeroCells z.cells n = ⟨zrep n (cellsL z)⟩ := by
 unfold Builtin.zeroCells
 exact zarr (by rw [cells_eq]; simp)
def byOf (P : Program) (T : TypeId) : Option Nat := (P.info? T).map (·.bytes)
theorem rI' {T : TypeId} {k : Nat} (h : szOf P T = some k) : ∃ i, P.info? T = some i ∧ i.size = k := by
 unfold szOf at h
 exact Option.map_eq_some_iff.1 h
def aMakeSlice (P : Program) (T : TypeId) (len cap : Value) (h : AH) : Option (Value × AH) := match len, cap with
 | .int _ l, .int _ c => match P.underlying T with
  | some (.slice el) => (match szOf P el, byOf P el, zeroOf P el with
   | some k, some by_, some z => if 0 ≤ l ∧ l ≤ c ∧ c * (by_ + 1) < 1099511627776 ∧ (cellsL z).length = k then aRow (zrep c.toNat (cellsL z)) h l.toNat c.toNat else none
   | _, _, _ => none)
  | _ => none
 | _, _ => none
theorem wrap64 {c : Int} (h0 : 0 ≤ c) (h1 : c < 1099511627776) : IntKind.i64.wrap c = c := by
 rw [IntKind.wrap_i64]; omega
def aSrc (k : Nat) (x : Value) (h : AH) : Option (Nat × List Value) := match x with
 | .slice none l _ => if l = 0 then some (0, []) else none
 | .slice (some a) l c => if l = 0 then some (0, []) else if c = 0 then none else (match h.cells a 0 (l * k) with
  | some cs => some (l, cs)
  | none => none)
 | .string s => if k = 1 then some (s.size, s.data.toList.map fun b => .int .u8 b.toNat) else none
 | _ => none
theorem LR.refl_bytes (l : List UInt8) : LR φ (l.map fun b => Value.int .u8 b.toNat) (l.map fun b => Value.int .u8 b.toNat) := by
 induction l with
 | nil => exact .nil
 | cons x l ih => exact .cons (.int _ _) ih
theorem R.bind (r : R w0 φ h w) {i : Im} {o : AObj} (hc : i.c < w.heap.size) (hn : T.Ok (h.next)) (free : ∀ b j o', φ b = some j → h.m.get b = some o' → j.c ≠ i.c) (hl : w0.heap.size ≤ i.c)
   (hx : ∀ φ', Le φ φ' → OR φ' i w o) : ∃ φ', Nx φ φ' h ⟨h.m.set h.next (some o), h.next + 1⟩ ∧ φ' h.next = some i ∧ R w0 φ' ⟨h.m.set h.next (some o), h.next + 1⟩ w := by
 have le : Le φ (fun b => if b = h.next then some i else φ b) := by
   intro b j hj
   have := (r.lt b j hj).2
   show (if b = h.next then some i else φ b) = some j
   rw [if_neg (by omega)]; exact hj
 have hget : ∀ k, (h.m.set h.next (some o)).get k = if k = h.next then some o else h.m.get k := fun k => T.get_set k
 refine ⟨fun b => if b = h.next then some i else φ b, Nx.new le (fun b j hb => ?_) hn, if_pos rfl, ?_⟩
 · by_cases e : b = h.next
   · exact .inr e
   · exact .inl (by simpa [e] using hb)
 · refine ⟨fun k j o2 hj hk => ?_, fun k j o2 hj hk hr => ?_, fun k k' j j' o2 o3 hj hj' hk hk' hr hcc => ?_, fun k j hj => ?_, hn, r.below⟩
   · rw [hget] at hk
     by_cases e : k = h.next
     · subst e; rw [if_pos rfl] at hk; cases hk
       rw [if_pos rfl] at hj; cases hj
       exact hx _ le
     · rw [if_neg e] at hk hj
       exact (r.dom k j o2 hj hk).mono le
   · rw [hget] at hk
     by_cases e : k = h.next
     · subst e
       rw [if_pos rfl] at hj; cases hj
       exact hl
     · rw [if_neg e] at hk hj
       exact r.low k j o2 hj hk hr
   · rw [hget] at hk hk'
     by_cases e : k = h.next
     · by_cases e' : k' = h.next
       · rw [e, e']
       · subst e
         rw [if_pos rfl] at hj; cases hj
         rw [if_neg e'] at hj' hk'
         exact (free k' j' o3 hj' hk' hcc.symm).elim
     · by_cases e' : k' = h.next
       · subst e'
         rw [if_pos rfl] at hj'; cases hj'
         rw [if_neg e] at hj hk
         exact (free k j o2 hj hk hcc).elim
       · rw [if_neg e] at hk hj
         rw [if_neg e'] at hk' hj'
         exact r.inj k k' j j' o2 o3 hj hj' hk hk' hr hcc
   · by_cases e : k = h.next
     · subst e; rw [if_pos rfl] at hj; cases hj
       exact ⟨hc, Nat.lt_succ_self _⟩
     · rw [if_neg e] at hj
       have := r.lt k j hj
       exact ⟨this.1, by show k < h.next + 1; omega⟩
theorem R.allocW (r : R w0 φ h w) (x : Obj) : R w0 φ h (w.alloc x) :=
 ⟨fun b i o hi ho => (r.dom b i o hi ho).world (Below.heap_alloc w x _ (r.lt b i hi).1), r.low, r.inj, fun b i hi => ⟨by have := (r.lt b i hi).1; simp; omega, (r.lt b i hi).2⟩, r.nx, r.below.alloc r.below.size x⟩
theorem R.setFree (r : R w0 φ h w) {g : Nat} {cs : Array Value} (free : ∀ b j o', φ b = some j → h.m.get b = some o' → j.c ≠ g) (hl : w0.heap.size ≤ g) : R w0 φ h (w.setRow g cs) := by
 have hsz : (w.setRow g cs).heap.size = w.heap.size := by simp [World.setRow]
 exact ⟨fun b i o hi ho => (r.dom b i o hi ho).world (setRow_other w g _ cs (free b i o hi ho)), r.low, r.inj, fun b i hi => by rw [hsz]; exact r.lt b i hi, r.nx,
  r.below.trans ⟨rfl, rfl, rfl, by rw [hsz]; exact Nat.le_refl _, fun k hk => setRow_other w g k cs (by omega)⟩⟩
def mkO (tag : Option TypeId) (c : T Value) (n k : Nat) : AObj := match tag with
 | none => .cells c n k false
 | some ty => .tcells ty c n k
def AH.newo (h : AH) (l : List Value) (k : Nat) (tag : Option TypeId := none) : Option (Nat × AH) :=
 if decide (0 < k) then some (h.next, ⟨h.m.set h.next (some (mkO tag (T.fill l 0 .e) l.length k)), h.next + 1⟩) else none
def tyAt (h : AH) (b : Nat) : Option TypeId := match h.m.get b with
 | some (.tcells ty _ _ _) => some ty
 | _ => none
theorem R.row (r : R w0 φ h w) {b nn k : Nat} {i : Im} (hi : φ b = some i) (hop : X.opOf h b = some (nn, k)) :
   ∃ arr el o, h.m.get b = some o ∧ o.ro = false ∧ w.heap[i.c]? = some (.cells arr el (0, 0)) ∧ arr.size = i.sz ∧ ∀ ty, tyAt h b = some ty → el = ty ∧ i.d = 0 := by
 unfold X.opOf at hop
 split at hop
 · rename_i c n' op' hg
   obtain ⟨_, _, _, arr, el', ⟨fz, hw, hro, _⟩, hsz, _, _⟩ := r.dom _ _ _ hi hg
   cases hro rfl
   refine ⟨arr, el', _, hg, rfl, hw, hsz, fun ty ht => ?_⟩
   unfold tyAt at ht
   rw [hg] at ht; cases ht
 · rename_i ty0 c n' op' hg
   obtain ⟨_, _, h3, arr, h4, h5, _⟩ := r.dom _ _ _ hi hg
   refine ⟨arr, ty0, _, hg, rfl, h4, h5, fun ty ht => ?_⟩
   unfold tyAt at ht
   rw [hg] at ht; cases ht
   exact ⟨rfl, h3⟩
 · cases hop
theorem R.newo (r : R w0 φ h w) {l l' : List Value} {k b sz d g : Nat} {tag : Option TypeId} (hs : h.newo l k tag = some (b, h')) (hl : LR φ l l') {arr : Array Value} {el : TypeId} (hg : w.heap[g]? = some (.cells arr el (0, 0))) (hsz : arr.size = sz)
   (hle : l.length + d ≤ sz) (hat : ∀ j v, l'[j]? = some v → arr[j + d]? = some v) (free : ∀ b j o', φ b = some j → h.m.get b = some o' → j.c ≠ g) (hlow : w0.heap.size ≤ g) (htag : ∀ ty, tag = some ty → el = ty ∧ d = 0) :
   ∃ φ', Nx φ φ' h h' ∧ φ' b = some ⟨g, d, l.length, sz, k⟩ ∧ R w0 φ' h' w := by
 unfold AH.newo at hs
 split at hs
 · rename_i hb
   cases hs
   have cl : ∀ φ', Le φ φ' → ∀ j, j < l.length → ∃ v v', (T.fill l 0 .e).get j = some v ∧ arr[j + d]? = some v' ∧ VR φ' v v' := by
    intro φ' le j hj
    obtain ⟨v', h1, h2⟩ := hl.get (List.getElem?_eq_getElem hj)
    refine ⟨l[j], v', ?_, hat j v' h1, h2.mono le⟩
    rw [T.get_fill, if_pos (by omega)]
    simp [hj]
   cases tag with
   | none =>
    refine r.bind (i := ⟨g, d, l.length, sz, k⟩) (Array.getElem?_eq_some_iff.1 hg).1 trivial free hlow (fun φ' le => ?_)
    exact ⟨rfl, rfl, trivial, arr, el, ⟨(0, 0), hg, fun _ => rfl, fun j _ => by simp [World.frozen?, hg]⟩, hsz, hle, cl φ' le⟩
   | some ty =>
    obtain ⟨e1, e2⟩ := htag ty rfl
    subst e1 e2
    refine r.bind (i := ⟨g, 0, l.length, sz, k⟩) (Array.getElem?_eq_some_iff.1 hg).1 trivial free hlow (fun φ' le => ?_)
    have hb : 0 < k := of_decide_eq_true hb
    exact ⟨rfl, rfl, rfl, arr, hg, hsz, ⟨hle, fun e => by omega⟩, cl φ' le⟩
 · cases hs
theorem newo_pos {l : List Value} {k b : Nat} {tag : Option TypeId} (hs : h.newo l k tag = some (b, h')) : 0 < k := by
 unfold AH.newo at hs
 split at hs
 · rename_i hb; exact of_decide_eq_true hb
 · cases hs
theorem Nx.drop {b : Nat} {i : Im} (hi : φ b = some i) (hb : T.Ok (b)) : Nx φ φ h { h with m := h.m.set b none } :=
 ⟨Le.refl φ, Nat.le_refl _, fun k hk _ => ⟨hk, by
  show (h.m.set b none).get k = _
  rw [T.get_set, if_neg (fun e => by subst e; rw [hi] at hk; cases hk)]⟩⟩
def tagOf (tg : Option TypeId) (h : AH) (a : Addr) : Option TypeId := match tg with
 | none => none
 | some el => (match tyAt h a.block with
  | some ty => (match Nat.beq ty el && Nat.beq a.off 0 with
   | true => some el
   | false => none)
  | none => none)
def aAppendTo (k : Nat) (s : Value) (n : Nat) (new : List Value) (h : AH) (tg : Option TypeId := none) : Option (Value × AH) := match s with
  | .slice none l c => if l = 0 ∧ c = 0 then (if n = 0 then some (.slice none 0 0, h) else (match h.newo new k tg with
      | some (b, h') => some (.slice (some ⟨b, 0, none⟩) n open_, h')
      | none => none)) else none
  | .slice (some a) l c =>
    if c = open_ then (match opOf h a.block with
      | some (nn, op) => if op = k then (if a.off + (l + n) * k ≤ nn then (match h.setcs a (l * k) new with
          | some h' => some (.slice (some a) (l + n) c, h')
          | none => none)
        else (match h.cells a 0 (l * k) with
          | some old => (match ({ h with m := h.m.set a.block none } : AH).newo (old ++ new) k (tagOf tg h a) with
            | some (b, h') => some (.slice (some ⟨b, 0, none⟩) (l + n) open_, h')
            | none => none)
          | none => none)) else none
      | none => none)
    else if l + n ≤ c then (if n = 0 then some (s, h) else match h.setcs a (l * k) new with
          | some h' => some (.slice (some a) (l + n) c, h')
          | none => none)
    else (match (if l = 0 then some [] else if c = 0 then none else h.cells a 0 (l * k)) with
      | some old => (match h.newo (old ++ new) k tg with
        | some (b, h') => some (.slice (some ⟨b, 0, none⟩) (l + n) open_, h')
        | none => none)
      | none => none)
  | _ => none
def appTo (k : Nat) (el : TypeId) (by_ : Nat) (zero : Array Value) (base : Option Addr) (l c n : Nat) (new : List Value) : Sem Value := do
 if l + n ≤ c then
  if let some a := base then storeCells (a.add (l * k)) new
  pure (.slice base (l + n) c)
 else
  let newCap ← choose (.appendCap (l + n) c el)
  askRoom (newCap * by_)
  let old ← Builtin.firstCells k l (.slice base l c)
  pure (.slice (some (← newRow el (old ++ ⟨new⟩ ++ Builtin.zeroCells zero (newCap - (l + n))))) (l + n) newCap)
theorem cut_ge (w : World) (need old : Nat) (e : TypeId) : need ≤ (Question.appendCap need old e).cut (w.tape w.drawn (.appendCap need old e)) := grownCap_ge w need old e
theorem run_askRoom (n : Nat) (w : World) : (askRoom n).run P w = .ok () w := by
 unfold askRoom
 split
 · simp [mark, Sem.run]
 · rfl
theorem sim_grow (r : R w0 φ h w) {k l c n b : Nat} {el : TypeId} {by_ : Nat} {zero : Value} {base : Option Addr} {old old' new new' : List Value} {tag : Option TypeId} (htag : ∀ ty, tag = some ty → el = ty) (hz : (cellsL zero).length = k) (hc : c < l + n)
   (hs : h.newo (old ++ new) k tag = some (b, h')) (hold : ∀ w1 : World, w1.heap = w.heap → (Builtin.firstCells k l (.slice base l c)).run P w1 = .ok ⟨old'⟩ w1) (ho : LR φ old old') (hn : LR φ new new')
   (hlen : (old ++ new).length = (l + n) * k) : SimV w0 P φ h w (appTo k el by_ zero.cells base l c n new') (.slice (some ⟨b, 0, none⟩) (l + n) open_) h' := by
 let cap := (Question.appendCap (l + n) c el).cut (w.tape w.drawn (.appendCap (l + n) c el))
 have hcap : l + n ≤ cap := cut_ge w _ _ _
 have hpos := newo_pos hs
 have hlen' : (old' ++ new').length = (l + n) * k := by rw [← hlen]; exact (ho.append hn).length.symm
 let arr : Array Value := (⟨old'⟩ ++ ⟨new'⟩ ++ Builtin.zeroCells zero.cells (cap - (l + n)))
 have harr : arr = ⟨old' ++ new' ++ zrep (cap - (l + n)) (cellsL zero)⟩ := by
   show (⟨old'⟩ ++ ⟨new'⟩ ++ Builtin.zeroCells zero.cells (cap - (l + n)) : Array Value) = _
   rw [zcells]
   apply Array.ext'
   simp
 have hsize : arr.size = cap * k := by
   rw [harr]
   simp only [List.size_toArray, List.length_append] at hlen' ⊢
   rw [hlen', zrep_len, hz, ← Nat.add_mul]
   congr 1; omega
 have r1 : R w0 φ h (w.drew.alloc (.cells arr el (0, 0))) := r.drew.allocW _
 have hw : w.drew.heap = w.heap := rfl
 have hg : (w.drew.alloc (.cells arr el (0, 0))).heap[w.heap.size]? = some (.cells arr el (0, 0)) := by
   show (w.drew.heap.push _)[w.heap.size]? = _
   rw [hw]; simp
 have hle : (l + n) * k ≤ cap * k := Nat.mul_le_mul_right _ hcap
 obtain ⟨φ', nx, hb, r'⟩ := r1.newo (sz := cap * k) (d := 0) hs (ho.append hn) hg hsize (by rw [hlen]; omega)
   (fun j v hj => by
     rw [harr]
     have := (List.getElem?_eq_some_iff.1 hj).1
     simp only [Nat.add_zero]
     rw [List.getElem?_toArray]
     rw [List.getElem?_append_left this]; exact hj)
   (fun b j o' hb _ => by have := (r.lt b j hb).1; omega) r.below.size (fun ty ht => ⟨htag ty ht, rfl⟩)
 refine ⟨.slice (some ⟨w.heap.size, 0, none⟩) (l + n) cap, w.drew.alloc (.cells arr el (0, 0)), φ', ?_, nx, r', ?_⟩
 · unfold appTo
   rw [if_neg (by omega)]
   simp only [Sem.run_bind, run_choose_drew]
   have hf : (Question.appendCap (l + n) c el).forced = false := rfl
   rw [hf]
   simp only [Bool.false_eq_true, if_false, Result.andThen_ok, run_askRoom, hold w.drew rfl, newRow, Sem.run_bind, run_newObj_alloc, Sem.run_pure]
   rfl
 · refine .opens (a := ⟨b, 0, none⟩) (c' := cap) ⟨w.heap.size, 0, (old ++ new).length, cap * k, k⟩ hb rfl hpos hcap ?_ ?_ (fun _ => rfl)
   · show (old ++ new).length ≤ 0 + cap * k
     rw [hlen]; omega
   · show 0 + 0 + cap * k ≤ cap * k
     omega
end
end Go.X
namespace Go.X
noncomputable section
open Go Go.RowKit
variable {w0 w w' : World} {φ φ' : Phi} {h h' : AH} {P : Program}
theorem LR.mem_one {l l' : List Value} (hl : LR φ l l') (h1 : l.all (·.oneCell') = true) : ∀ v, v ∈ l' → v.oneCell' = true := by
 induction hl with
 | nil => intro v hv; simp at hv
 | cons h _ ih =>
  simp only [List.all_cons, Bool.and_eq_true] at h1
  intro v hv
  rcases List.mem_cons.1 hv with e | e
  · rw [e, h.one]; exact h1.1
  · exact ih h1.2 v e
theorem run_storeCells_add {b o k : Nat} : ∀ (vs : List Value) (q : Nat) (w : World), (storeCells ((⟨b, o, none⟩ : Addr).add k) vs q).run P w = (storeCells ⟨b, o, none⟩ vs (k + q)).run P w := by
 intro vs
 induction vs with
 | nil => intro q w; simp [storeCells]
 | cons x vs ih =>
  intro q w
  simp only [storeCells, Sem.run_bind]
  have e : ((⟨b, o, none⟩ : Addr).add k).add q = (⟨b, o, none⟩ : Addr).add (k + q) := by rw [addEq, addEq, addEq, Nat.add_assoc]
  rw [e]
  congr 1
  funext u w3
  rw [ih (q + 1) w3, Nat.add_assoc]
theorem run_storeCells_row {g o t : Nat} {vs : List Value} {cur : Array Value} {w : World} (hg : w.heap[g]? = some (.cells cur t (0, 0))) (hl : o + vs.length ≤ cur.size) (h1 : ∀ v, v ∈ vs → v.oneCell' = true) :
  (storeCells ⟨g, o, none⟩ vs).run P w = .ok () (w.setRow g (cur.toList.take o ++ vs ++ cur.toList.drop (o + vs.length)).toArray) := by
 have := run_storeCells_at (P := P) g o t vs 0 cur w hg (by simpa using hl) h1
 simpa using this
theorem sim_inplace (r : R w0 φ h w) {a a' : Addr} {i : Im} {k l n c' b : Nat} {el : TypeId} {by_ : Nat} {zero : Array Value} {old new new' : List Value} {tag : Option TypeId} (htag : ∀ ty, tag = some ty → tyAt h a.block = some ty ∧ a.off = 0) (h1 : new.all (·.oneCell') = true) {nn : Nat}
   (hi : φ a.block = some i) (hop : opOf h a.block = some (nn, k)) (hold : h.cells a 0 (l * k) = some old) (hs : ({ h with m := h.m.set a.block none } : AH).newo (old ++ new) k tag = some (b, h'))
   (hn : LR φ new new') (hlen : new.length = n * k) (he : i.e = k) (hz : a.off + i.d + c' * i.e ≤ i.sz) (ha : 0 < c' → a' = ⟨i.c, a.off + i.d, none⟩) (hroom : l + n ≤ c') :
   SimV w0 P φ h w (appTo k el by_ zero (some a') l c' n new') (.slice (some ⟨b, 0, none⟩) (l + n) open_) h' := by
 have hpos := newo_pos hs
 obtain ⟨old', ho1, ho2, ho3⟩ := r.cells hi _ _ hold
 obtain ⟨arr, el', ob, hg, hro, hw, hsz, hty⟩ := r.row hi hop
 have hb : T.Ok (a.block) := trivial
 have rd := r.drop a.block hb
 have free : ∀ b j o', φ b = some j → (h.m.set a.block none).get b = some o' → j.c ≠ i.c := by
   intro b j o' hj hgo hc
   rw [T.get_set] at hgo
   by_cases e : b = a.block
   · rw [if_pos e] at hgo; cases hgo
   · rw [if_neg e] at hgo; exact e (r.inj _ _ _ _ _ _ hi hj hg hgo hro hc.symm).symm
 have hlow : w0.heap.size ≤ i.c := r.low _ _ _ hi hg hro
 have hll : (old' ++ new').length = (l + n) * k := by rw [List.length_append, ho1, ← hn.length, hlen, Nat.add_mul]
 have hkk : (l + n) * k ≤ c' * k := Nat.mul_le_mul_right k hroom
 rw [he] at hz
 have hold' : ∀ j v, old'[j]? = some v → arr[a.off + i.d + j]? = some v := by
   intro j v hj
   have := ho2 j v hj
   rw [Nat.zero_add] at this
   simpa [World.cell?, hw] using this
 have hnl : new'.length = n * k := by rw [← hn.length, hlen]
 have hm := Nat.add_mul l n k
 let o := a.off + i.d + l * k
 let arr' : Array Value := (arr.toList.take o ++ new' ++ arr.toList.drop (o + new'.length)).toArray
 have hosz : o + new'.length ≤ arr.size := by rw [hsz, hnl]; show a.off + i.d + l * k + n * k ≤ i.sz; omega
 have hw2 : (w.setRow i.c arr').heap[i.c]? = some (.cells arr' el' (0, 0)) := setRow_heap w i.c arr arr' el' (0, 0) hw
 have hsz2 : arr'.size = i.sz := by
   show (arr.toList.take o ++ new' ++ arr.toList.drop (o + new'.length)).toArray.size = i.sz
   rw [List.size_toArray, List.length_append, List.length_append, List.length_take, List.length_drop, Array.length_toList]
   omega
 have rf : R w0 φ { h with m := h.m.set a.block none } (w.setRow i.c arr') := rd.setFree free hlow
 obtain ⟨φ', nx, hb', r'⟩ := rf.newo (sz := i.sz) (d := a.off + i.d) hs (ho3.append hn) hw2 hsz2 (by rw [(ho3.append hn).length, hll]; omega) (fun j v hj => by
     show (arr.toList.take o ++ new' ++ arr.toList.drop (o + new'.length)).toArray[j + (a.off + i.d)]? = some v
     rw [List.getElem?_toArray]
     have hjl := (List.getElem?_eq_some_iff.1 hj).1
     rw [hll] at hjl
     have htl : (arr.toList.take o).length = o := by rw [List.length_take, Array.length_toList]; omega
     by_cases hjo : j < l * k
     · rw [List.getElem?_append_left (by omega)] at hj
       rw [List.append_assoc, List.getElem?_append_left (by rw [htl]; show j + (a.off + i.d) < a.off + i.d + l * k; omega), List.getElem?_take, if_pos (by show j + (a.off + i.d) < a.off + i.d + l * k; omega)]
       have := hold' j v hj
       rw [Nat.add_comm j]
       simpa using this
     · rw [List.getElem?_append_right (by omega), ho1] at hj
       rw [List.append_assoc, List.getElem?_append_right (by rw [htl]; show a.off + i.d + l * k ≤ j + (a.off + i.d); omega), htl, List.getElem?_append_left (by rw [hnl]; show j + (a.off + i.d) - (a.off + i.d + l * k) < n * k; omega)]
       rw [show j + (a.off + i.d) - o = j - l * k by show j + (a.off + i.d) - (a.off + i.d + l * k) = j - l * k; omega]
       exact hj) free hlow (fun ty ht => by
     obtain ⟨h5, h6⟩ := htag ty ht
     obtain ⟨h7, h8⟩ := hty ty h5
     exact ⟨h7, by rw [h6, h8]⟩)
 have nx' : Nx φ φ' h h' := (Nx.drop hi hb).trans nx
 refine ⟨.slice (some a') (l + n) c', w.setRow i.c arr', φ', ?_, nx', r', ?_⟩
 · unfold appTo
   rw [if_pos hroom]
   have hst : (storeCells (a'.add (l * k)) new').run P w = .ok () (w.setRow i.c arr') := by
     by_cases hc0 : c' = 0
     · have e2 : n = 0 := by omega
       subst e2
       have hnil : new' = [] := List.eq_nil_of_length_eq_zero (by simpa using hnl)
       have earr : arr' = arr := by
        show (arr.toList.take o ++ new' ++ arr.toList.drop (o + new'.length)).toArray = arr
        rw [hnil]; simp
       rw [earr, setRow_self w i.c arr el' (0, 0) hw, hnil]
       simp [storeCells]
     · rw [ha (by omega), run_storeCells_add]
       have := run_storeCells_row (P := P) (o := o) hw hosz (hn.mem_one h1)
       rw [Nat.add_zero]
       have e : (storeCells ⟨i.c, a.off + i.d, none⟩ new' (l * k)).run P w = (storeCells ⟨i.c, o, none⟩ new').run P w := by
        have := run_storeCells_add (P := P) (b := i.c) (o := a.off + i.d) (k := l * k) new' 0 w
        rw [Nat.add_zero] at this
        rw [← this, addEq]
       rw [e]; exact this
   simp [hst]
 · refine .opens (a := ⟨b, 0, none⟩) ⟨i.c, a.off + i.d, (old ++ new).length, i.sz, k⟩ hb' rfl hpos hroom ?_ ?_ (fun hp => by rw [ha hp]; simp)
   · show (old ++ new).length ≤ 0 + c' * k
     rw [(ho3.append hn).length, hll]; omega
   · show 0 + (a.off + i.d) + c' * k ≤ i.sz
     omega
theorem tagOf_spec {tg : Option TypeId} {a : Addr} {ty : TypeId} (ht : tagOf tg h a = some ty) : tg = some ty ∧ tyAt h a.block = some ty ∧ a.off = 0 := by
 unfold tagOf at ht
 split at ht
 · cases ht
 · split at ht
   · rename_i t2 h2
     split at ht
     · rename_i hb
       cases ht
       rw [Bool.and_eq_true] at hb
       exact ⟨rfl, by rw [h2, Nat.eq_of_beq_eq_true hb.1], Nat.eq_of_beq_eq_true hb.2⟩
     · cases ht
   · cases ht
theorem sim_appTo (r : R w0 φ h w) {k n : Nat} {el : TypeId} {by_ : Nat} {zero : Value} {s s' v : Value} {new new' : List Value} {tg : Option TypeId} (htg : ∀ ty, tg = some ty → el = ty) (hz : (cellsL zero).length = k) (h1 : new.all (·.oneCell') = true)
   (hs : aAppendTo k s n new h tg = some (v, h')) (hv : VR φ s s') (hn : LR φ new new') (hlen : new.length = n * k) :
   ∃ base l c, s' = .slice base l c ∧ (∃ b0 c0, s = .slice b0 l c0) ∧ SimV w0 P φ h w (appTo k el by_ zero.cells base l c n new') v h' := by
 unfold aAppendTo at hs
 split at hs
 · rename_i l c
   cases hv
   split at hs
   · rename_i hc
     obtain ⟨rfl, rfl⟩ := hc
     refine ⟨none, 0, 0, rfl, ⟨none, 0, rfl⟩, ?_⟩
     split at hs
     · rename_i h0
       cases hs
       subst h0
       refine .here r (v' := .slice none 0 0) ?_ (.nils 0 0)
       simp [appTo]
     · rename_i h0
       split at hs
       · rename_i b h2 hnew
         cases hs
         have := sim_grow (P := P) (el := el) (by_ := by_) (zero := zero) (base := none) (l := 0) (c := 0) (n := n) (k := k) (old := []) (old' := []) r htg hz (by omega) hnew (fun w1 _ => by simp [Builtin.firstCells]) .nil hn (by simpa using hlen)
         simpa using this
       · cases hs
   · cases hs
 · rename_i a l c
   have fits : ∀ {i : Im} {c' : Nat} {h' : AH}, φ a.block = some i → h.setcs a (l * k) new = some h' → l + n ≤ c' → ∃ w2, (appTo k el by_ zero.cells (some ⟨i.c, a.off + i.d, none⟩) l c' n new').run P w = .ok (.slice (some ⟨i.c, a.off + i.d, none⟩) (l + n) c') w2 ∧ Nx φ φ h h' ∧ R w0 φ h' w2 := by
     intro i c' h' hi hset hroom
     obtain ⟨w2, hw2, r2⟩ := R.setcs (P := P) hi _ _ r hset hn
     have hnx := Nx.setcs hi trivial _ _ hset
     refine ⟨w2, ?_, hnx, r2⟩
     have e0 := run_storeCells_add (P := P) (b := i.c) (o := a.off + i.d) (k := l * k) new' 0 w
     rw [Nat.add_zero, hw2] at e0
     simp [appTo, hroom, e0]
   split at hs
   · rename_i hc
     subst hc
     obtain ⟨a', c', i, rfl, hi, hsp, he, hlc, hnn, hzz, ha⟩ := hv.sl_invO
     refine ⟨some a', l, c', rfl, ⟨some a, _, rfl⟩, ?_⟩
     split at hs
     · rename_i nn op hop
       obtain ⟨hin, hie⟩ := r.opOf hi hop
       split at hs
       · rename_i hk
         subst hk
         split at hs
         · rename_i hfit
           split at hs
           · rename_i h2 hset
             cases hs
             have hroom : l + n ≤ c' := by
               rw [hie] at hnn
               have h3 : (l + n) * op ≤ c' * op := by omega
               exact Nat.le_of_mul_le_mul_right h3 (by rw [← hie]; exact he)
             by_cases hl0 : l + n = 0
             · have hn0 : n = 0 := by omega
               subst hn0
               have hnil : new = [] := List.eq_nil_of_length_eq_zero (by simpa using hlen)
               subst hnil
               cases hn
               simp only [AH.setcs] at hset
               cases hset
               refine .here r (v' := .slice (some a') (l + 0) c') ?_ (.opens i hi hsp he (by omega) hnn hzz ha)
               unfold appTo
               rw [if_pos hroom]
               simp [storeCells]
             · obtain rfl := ha (by omega)
               obtain ⟨w2, h3, h4, h5⟩ := fits hi hset hroom
               exact ⟨_, w2, φ, h3, h4, h5, .opens i hi hsp he hroom hnn hzz ha⟩
           · cases hs
         · rename_i hfit
           split at hs
           · rename_i old hold
             split at hs
             · rename_i b h2 hnew
               cases hs
               by_cases hroom : l + n ≤ c'
               · exact sim_inplace r (fun ty ht => (tagOf_spec ht).2) h1 hi hop hold hnew hn hlen hie hzz ha hroom
               · have hb : T.Ok (a.block) := trivial
                 obtain ⟨old', ho1, ho2, ho3⟩ := r.cells hi _ _ hold
                 have hf : ∀ w1 : World, w1.heap = w.heap → (Builtin.firstCells op l (.slice (some a') l c')).run P w1 = .ok ⟨old'⟩ w1 := by
                   intro w1 hw1
                   unfold Builtin.firstCells
                   by_cases hl0 : l = 0
                   · subst hl0
                     have : old' = [] := List.eq_nil_of_length_eq_zero (by simpa using ho1)
                     subst this
                     simp [loadCells, loadCellsFrom]
                   · rw [ha (by omega)]
                     exact run_loadCells_at ho1 (fun j v hj => by
                      have := ho2 j v hj
                      rw [Nat.zero_add] at this
                      simp only [World.cell?] at this ⊢
                      rw [hw1]; exact this)
                 have := sim_grow (P := P) (el := el) (by_ := by_) (zero := zero) (base := some a') (l := l) (c := c') (n := n) (k := op) (r.drop a.block hb) (fun ty ht => htg ty (tagOf_spec ht).1) hz (by omega) hnew hf ho3 hn (by rw [List.length_append, hlen, ho3.length, ho1, Nat.add_mul])
                 obtain ⟨v', w', φ', h3, h4, h5, h6⟩ := this
                 exact ⟨v', w', φ', h3, (Nx.drop hi hb).trans h4, h5, h6⟩
             · cases hs
           · cases hs
       · cases hs
     · cases hs
   · rename_i hc
     split at hs
     · rename_i hroom
       split at hs
       · rename_i h0
         cases hs
         subst h0
         have hnil : new = [] := List.eq_nil_of_length_eq_zero (by simpa using hlen)
         subst hnil
         cases hn
         have : ∃ a', s' = .slice (some a') l c := by
           by_cases h00 : c = 0
           · subst h00; obtain ⟨a', rfl⟩ := hv.sl_inv0; exact ⟨a', rfl⟩
           · obtain ⟨i, _, _, rfl⟩ := hv.sl_inv h00 hc; exact ⟨_, rfl⟩
         obtain ⟨a', rfl⟩ := this
         refine ⟨some a', l, c, rfl, ⟨some a, c, rfl⟩, .here r (v' := .slice (some a') l c) ?_ hv⟩
         unfold appTo
         rw [if_pos hroom]
         simp [storeCells]
       · rename_i h0
         split at hs
         · rename_i h2 hset
           cases hs
           obtain ⟨i, hi, hsp, rfl⟩ := hv.sl_inv (by omega) hc
           refine ⟨_, l, c, rfl, ⟨some a, c, rfl⟩, ?_⟩
           obtain ⟨w2, h3, h4, h5⟩ := fits hi hset hroom
           exact ⟨_, w2, φ, h3, h4, h5, .slice i hi hsp hc⟩
         · cases hs
     · rename_i hroom
       split at hs
       · rename_i old hold
         split at hs
         · rename_i b h2 hnew
           cases hs
           have : ∃ a', s' = .slice (some a') l c ∧ ∃ old', old'.length = l * k ∧ (∀ w1 : World, w1.heap = w.heap → (Builtin.firstCells k l (.slice (some a') l c)).run P w1 = .ok ⟨old'⟩ w1) ∧ LR φ old old' := by
             by_cases hl0 : l = 0
             · subst hl0
               rw [if_pos rfl] at hold
               cases hold
               have : ∃ a', s' = .slice (some a') 0 c := by
                 by_cases h00 : c = 0
                 · subst h00; obtain ⟨a', rfl⟩ := hv.sl_inv0; exact ⟨a', rfl⟩
                 · obtain ⟨i, _, _, rfl⟩ := hv.sl_inv h00 hc; exact ⟨_, rfl⟩
               obtain ⟨a', rfl⟩ := this
               exact ⟨a', rfl, [], by simp, fun w1 _ => by simp [Builtin.firstCells, loadCells, loadCellsFrom], .nil⟩
             · rw [if_neg hl0] at hold
               split at hold
               · cases hold
               · rename_i h00
                 obtain ⟨i, hi, hsp, rfl⟩ := hv.sl_inv h00 hc
                 obtain ⟨old', ho1, ho2, ho3⟩ := r.cells hi _ _ hold
                 refine ⟨_, rfl, old', ho1, fun w1 hw1 => ?_, ho3⟩
                 unfold Builtin.firstCells
                 exact run_loadCells_at ho1 (fun j v hj => by
                   have := ho2 j v hj
                   rw [Nat.zero_add] at this
                   simp only [World.cell?] at this ⊢
                   rw [hw1]; exact this)
           obtain ⟨a', rfl, old', ho1, hf, ho3⟩ := this
           exact ⟨_, l, c, rfl, ⟨some a, c, rfl⟩, sim_grow r htg hz (by omega) hnew hf ho3 hn (by rw [List.length_append, hlen, ho3.length, ho1, Nat.add_mul])⟩
         · cases hs
       · cases hs
 · cases hs
end
end Go.X
namespace Go.X
noncomputable section
open Go Go.RowKit
variable {w0 w w' : World} {φ φ' : Phi} {h h' : AH} {P : Program}
def lenV : Value → Option Nat
 | .slice _ l _ => some l
 | .string s => some s.size
 | _ => none
theorem lenV_ok {x x' : Value} {n : Nat} (hs : lenV x = some n) (hx : VR φ x x') : (Builtin.lenOf x').run P w = .ok n w := by
 cases hx <;> simp [lenV] at hs <;> subst hs <;> simp [Builtin.lenOf]
def aFirst (k n : Nat) (x : Value) (h : AH) : Option (List Value) := match x with
 | .slice none _ _ => some []
 | .slice (some a) l c => if n = 0 then some [] else if c = 0 ∨ l = 0 then none else h.cells a 0 (n * k)
 | .string s => some ((s.data.toList.take n).map fun b => .int .u8 b.toNat)
 | _ => none
theorem first_ok (r : R w0 φ h w) {k n : Nat} {x x' : Value} {cs : List Value} (hs : aFirst k n x h = some cs) (hx : VR φ x x') :
   ∃ cs', (∀ w1 : World, w1.heap = w.heap → (Builtin.firstCells k n x').run P w1 = .ok ⟨cs'⟩ w1) ∧ LR φ cs cs' := by
 unfold aFirst at hs
 split at hs
 · cases hx
   cases hs
   exact ⟨[], fun w1 _ => by simp [Builtin.firstCells], .nil⟩
 · rename_i a l c
   split at hs
   · rename_i h0
     cases hs
     subst h0
     have : ∃ a' c', x' = .slice (some a') l c' := by cases hx <;> exact ⟨_, _, rfl⟩
     obtain ⟨a', c', rfl⟩ := this
     exact ⟨[], fun w1 _ => by simp [Builtin.firstCells, loadCells, loadCellsFrom], .nil⟩
   · split at hs
     · cases hs
     · rename_i hcl
       obtain ⟨i, c', hi, hsp, rfl⟩ := hx.sl_some (by omega) (by omega)
       obtain ⟨l', h1, h2, h3⟩ := r.cells hi _ _ hs
       refine ⟨l', fun w1 hw1 => ?_, h3⟩
       unfold Builtin.firstCells
       exact run_loadCells_at h1 (fun j v hj => by
        have := h2 j v hj
        rw [Nat.zero_add] at this
        simp only [World.cell?] at this ⊢
        rw [hw1]; exact this)
 · rename_i s
   cases hx
   cases hs
   refine ⟨_, fun w1 _ => ?_, LR.refl_bytes _⟩
   have e : (s.extract 0 n).data.toList = s.data.toList.take n := by
     rw [ByteArray.data_extract]
     simp
   show Sem.run P (Pure.pure (Array.map (fun b : UInt8 => Value.int IntKind.u8 b.toNat) (s.extract 0 n).data)) w1 = _
   simp only [Sem.run_pure]
   congr 1
   apply Array.ext'
   rw [Array.toList_map, e]
 · cases hs
inductive NewsK where
 | zeros | list | no
def newsK (P : Program) (T : TypeId) : NewsK := match P.underlying T with
 | some (.int _) => .zeros
 | some (.slice _) => .list
 | some .string => .list
 | _ => .no
def aNews (P : Program) (xT : TypeId) (k : Nat) (z x : Value) (h : AH) : Option (Nat × List Value) := match newsK P xT with
 | .zeros => (match x with
  | .int _ m => if 0 ≤ m ∧ m < 1099511627776 then some (m.toNat, zrep m.toNat (cellsL z)) else none
  | _ => none)
 | .list => (match lenV x with
  | some n => (match aFirst k n x h with | some l => some (n, l) | none => none)
  | none => none)
 | .no => none
def isU8 (P : Program) (el : TypeId) : Option TypeId := match P.underlying el with
 | some (.int .u8) => some el
 | _ => none
theorem isU8_eq {P : Program} {el : TypeId} : ∀ ty, isU8 P el = some ty → el = ty := by
 intro ty h
 unfold isU8 at h
 split at h
 · cases h; rfl
 · cases h
def aAppend (P : Program) (sT xT : TypeId) (s x : Value) (h : AH) : Option (Value × AH) := match P.underlying sT with
 | some (.slice el) => (match szOf P el, byOf P el, zeroOf P el with
  | some k, some by_, some z => (match aNews P xT k z x h, lenV s with
   | some (n, new), some l => if (cellsL z).length = k ∧ new.length = n * k ∧ new.all (·.oneCell') = true ∧ (l + n) * (by_ + 1) < 1099511627776 then aAppendTo k s n new h (isU8 P el) else none
   | _, _ => none)
  | _, _, _ => none)
 | _ => none
theorem run_append_zeros {sT xT ty el : TypeId} {i : TypeInfo} {zero : Value} {base : Option Addr} {l c n : Nat} {kk : IntKind} {m : Int} (hu : P.underlying sT = some (.slice el)) (hi : P.info? el = some i)
   (hz : i.zero = some zero) (hk : newsK P xT = .zeros) (hsm : (l + n) * (i.bytes + 1) < 1099511627776) (hm0 : 0 ≤ m) (hm1 : m < 1099511627776) (hn : n = m.toNat) (hzl : (cellsL zero).length = i.size) :
   (Builtin.append_ #[sT, xT] ty #[.slice base l c, .int kk m]).run P w = (appTo i.size el i.bytes zero.cells base l c n (zrep n (cellsL zero))).run P w := by
 have h40 : l + n < 1099511627776 := by
   have : (l + n) * 1 ≤ (l + n) * (i.bytes + 1) := Nat.mul_le_mul_left _ (by omega)
   omega
 have hfit : c < l + n → ¬ (281474976710656 < Builtin.nextslicecap (l + n) c * i.bytes) := by
   intro hc
   have h3 : (l + n) * i.bytes ≤ 140737488355328 := by
     have : (l + n) * (i.bytes + 1) = (l + n) * i.bytes + (l + n) := by rw [Nat.mul_add, Nat.mul_one]
     omega
   have := growslice_fits hc h3
   omega
 have hmax : (IntKind.i64.max : Int) = 9223372036854775807 := by decide
 have hbig : ¬ (9223372036854775807 < (l : Int) + max m 0) := by omega
 have hdx : ∃ k2, P.underlying xT = some (.int k2) := by
   unfold newsK at hk
   split at hk <;> first | exact ⟨_, ‹_›⟩ | cases hk
 obtain ⟨k2, hxu⟩ := hdx
 have hw := wrap64 hm0 hm1
 have hmb : ¬ (281474976710656 < m * (i.bytes : Int)) := by
   have h5 : n * (i.bytes + 1) ≤ (l + n) * (i.bytes + 1) := Nat.mul_le_mul_right _ (by omega)
   have h7 : n * (i.bytes + 1) = n * i.bytes + n := by rw [Nat.mul_add, Nat.mul_one]
   have h8 : ((n * i.bytes : Nat) : Int) = m * i.bytes := by rw [hn]; push_cast; rw [Int.toNat_of_nonneg hm0]
   omega
 have hmn : ¬ m < 0 := by omega
 subst hn
 unfold Builtin.append_ appTo
 by_cases hroom : l + m.toNat ≤ c
 · by_cases hz0 : m.toNat * i.size = 0
   · have he : zrep m.toNat (cellsL zero) = [] := List.eq_nil_of_length_eq_zero (by rw [zrep_len, hzl]; exact hz0)
     simp [run_underlying hu, run_underlying hxu, sizeOf, typeInfo, zeroValue, hi, hz, asInt, asIntOf, hw, hmn, hmb, hroom, hz0, he]
     cases base <;> rfl
   · simp [run_underlying hu, run_underlying hxu, sizeOf, typeInfo, zeroValue, hi, hz, asInt, asIntOf, hw, hmn, hmb, hroom, hz0, zcells]
     cases base <;> rfl
 · have hf := hfit (by omega)
   by_cases hz0 : m.toNat * i.size = 0
   · have he : zrep m.toNat (cellsL zero) = [] := List.eq_nil_of_length_eq_zero (by rw [zrep_len, hzl]; exact hz0)
     simp [run_underlying hu, run_underlying hxu, sizeOf, typeInfo, zeroValue, hi, hz, asInt, asIntOf, hw, hmn, hmb, hroom, hz0, he, hmax, hbig, hf, Question.forced]
   · simp [run_underlying hu, run_underlying hxu, sizeOf, typeInfo, zeroValue, hi, hz, asInt, asIntOf, hw, hmn, hmb, hroom, hz0, zcells, hmax, hbig, hf, Question.forced]
theorem load_world {a : Addr} {v : Value} {w1 : World} (hr : (load a).run P w = .ok v w1) : w1 = w := by
 rw [run_load] at hr
 split at hr
 · cases hr; rfl
 · split at hr
   · cases hr; rfl
   · cases hr
theorem loadCellsFrom_world {a : Addr} : ∀ (n i : Nat) (acc : Array Value) {l : Array Value} {w w1 : World}, (loadCellsFrom a i n acc).run P w = .ok l w1 → w1 = w
 | 0, i, acc, l, w, w1, hr => by simp [loadCellsFrom] at hr; exact hr.2.symm
 | n + 1, i, acc, l, w, w1, hr => by
  simp only [loadCellsFrom, Sem.run_bind] at hr
  cases hq : (load (a.add i)).run P w with
  | ok v w2 =>
   rw [hq] at hr
   have := load_world hq
   subst this
   exact loadCellsFrom_world n (i + 1) _ hr
  | halt x w2 => rw [hq] at hr; cases hr
theorem firstCells_world {k n : Nat} {x : Value} {l : Array Value} {w1 : World} (hr : (Builtin.firstCells k n x).run P w = .ok l w1) : w1 = w := by
 unfold Builtin.firstCells at hr
 split at hr
 · exact loadCellsFrom_world _ _ _ hr
 · simp at hr; exact hr.2.symm
 · simp at hr; exact hr.2.symm
 · simp at hr
theorem run_append_list {sT xT ty el : TypeId} {i : TypeInfo} {zero x' : Value} {base : Option Addr} {l c n : Nat} {new' : List Value} (hu : P.underlying sT = some (.slice el)) (hi : P.info? el = some i)
   (hz : i.zero = some zero) (hk : newsK P xT = .list) (hsm : (l + n) * (i.bytes + 1) < 1099511627776) (hlen : (Builtin.lenOf x').run P w = .ok n w)
   (hfirst : ∀ w1 : World, w1.heap = w.heap → (Builtin.firstCells i.size n x').run P w1 = .ok ⟨new'⟩ w1) :
   (Builtin.append_ #[sT, xT] ty #[.slice base l c, x']).run P w = (appTo i.size el i.bytes zero.cells base l c n new').run P w := by
 have h40 : l + n < 1099511627776 := by
   have : (l + n) * 1 ≤ (l + n) * (i.bytes + 1) := Nat.mul_le_mul_left _ (by omega)
   omega
 have hbig : ¬ (9223372036854775807 < (l : Int) + (n : Int)) := by omega
 have hfit : c < l + n → ¬ (281474976710656 < Builtin.nextslicecap (l + n) c * i.bytes) := by
   intro hc
   have h3 : (l + n) * i.bytes ≤ 140737488355328 := by
     have : (l + n) * (i.bytes + 1) = (l + n) * i.bytes + (l + n) := by rw [Nat.mul_add, Nat.mul_one]
     omega
   have := growslice_fits hc h3
   omega
 have hmax : (IntKind.i64.max : Int) = 9223372036854775807 := by decide
 have hdx : (∃ e, P.underlying xT = some (.slice e)) ∨ P.underlying xT = some .string := by
   unfold newsK at hk
   split at hk <;> first | exact .inl ⟨_, ‹_›⟩ | exact .inr ‹_› | cases hk
 have h1 := hfirst w rfl
 have h2 := hfirst w.drew rfl
 unfold Builtin.append_ appTo
 by_cases hroom : l + n ≤ c
 · rcases hdx with ⟨e, hxu⟩ | hxu
   · simp [run_underlying hu, run_underlying hxu, sizeOf, typeInfo, hi, hlen, hroom, h1]
     cases base <;> rfl
   · simp [run_underlying hu, run_underlying hxu, sizeOf, typeInfo, hi, hlen, hroom, h1]
     cases base <;> rfl
 · have hf := hfit (by omega)
   rcases hdx with ⟨e, hxu⟩ | hxu
   · simp [run_underlying hu, run_underlying hxu, sizeOf, typeInfo, zeroValue, hi, hz, hlen, hroom, hmax, hbig, hf, Question.forced]
     cases hq : (Builtin.firstCells i.size l (Value.slice base l c)).run P w.drew with
     | ok old w2 => rw [firstCells_world hq]; simp [h2]
     | halt x w2 => simp
   · simp [run_underlying hu, run_underlying hxu, sizeOf, typeInfo, zeroValue, hi, hz, hlen, hroom, hmax, hbig, hf, Question.forced]
     cases hq : (Builtin.firstCells i.size l (Value.slice base l c)).run P w.drew with
     | ok old w2 => rw [firstCells_world hq]; simp [h2]
     | halt x w2 => simp
theorem sim_append (r : R w0 φ h w) {sT xT ty : TypeId} {s x s' x' v : Value} (hs : aAppend P sT xT s x h = some (v, h')) (hv : VR φ s s') (hx : VR φ x x') : SimV w0 P φ h w (Builtin.append_ #[sT, xT] ty #[s', x']) v h' := by
 unfold aAppend at hs
 split at hs
 · rename_i el hu
   split at hs
   · rename_i k by_ z hk hb hz
     split at hs
     · rename_i n new l hnew hl
       split at hs
       · rename_i hc
         obtain ⟨hc1, hc2, hc3, hc4⟩ := hc
         obtain ⟨i, hi, hisz⟩ := rI' hk
         have hib : i.bytes = by_ := by unfold byOf at hb; rw [hi] at hb; simpa using hb
         have hz' : i.zero = some z := by
           unfold zeroOf at hz
           rw [hi] at hz
           dsimp only at hz
           split at hz
           · split at hz
             · cases hz; assumption
             · cases hz
           · cases hz
         have hzp := (rZero hz w).2
         subst hib
         subst hisz
         have fin : ∀ {new' : List Value}, LR φ new new' → (∀ base c, (Builtin.append_ #[sT, xT] ty #[.slice base l c, x']).run P w = (appTo i.size el i.bytes z.cells base l c n new').run P w) → SimV w0 P φ h w (Builtin.append_ #[sT, xT] ty #[s', x']) v h' := by
           intro new' hn he
           obtain ⟨base, l1, c, rfl, ⟨b0, c0, e0⟩, v', w', φ', h1, h2, h3, h4⟩ := sim_appTo (P := P) (el := el) (by_ := i.bytes) r isU8_eq hc1 hc3 hs hv hn hc2
           have : l1 = l := by rw [e0] at hl; simpa [lenV] using hl
           subst this
           exact ⟨v', w', φ', (he base c).trans h1, h2, h3, h4⟩
         unfold aNews at hnew
         split at hnew
         · rename_i hkk
           split at hnew
           · rename_i kk m
             split at hnew
             · rename_i hm
               cases hnew
               obtain rfl := hx.int_inv
               exact fin (zrep_rel (pfv_refl φ hzp).cells _) (fun base c => run_append_zeros hu hi hz' hkk hc4 hm.1 hm.2 rfl hc1)
             · cases hnew
           · cases hnew
         · rename_i hkk
           split at hnew
           · rename_i n' hn'
             split at hnew
             · rename_i l' hl'
               cases hnew
               obtain ⟨cs', h1, h2⟩ := first_ok (P := P) r hl' hx
               exact fin h2 (fun base c => run_append_list hu hi hz' hkk hc4 (lenV_ok hn' hx) h1)
             · cases hnew
           · cases hnew
         · cases hnew
       · cases hs
     · cases hs
   · cases hs
 · cases hs
def aCopy (P : Program) (dT : TypeId) (d x : Value) (h : AH) : Option (Value × AH) := match P.underlying dT, d, lenV x with
 | some (.slice el), .slice base dl dc, some n => (match szOf P el, aFirst ((szOf P el).getD 0) (min n dl) x h with
  | some _, some cs => if min n dl = 0 ∧ cs = [] then some (.int .i64 ((min n dl : Nat) : Int), h) else (match base with
   | some a => if dc = 0 ∨ dl = 0 then none else (match h.setcs a 0 cs with
    | some h' => some (.int .i64 ((min n dl : Nat) : Int), h')
    | none => none)
   | none => none)
  | _, _ => none)
 | _, _, _ => none
theorem sim_copy (r : R w0 φ h w) {dT xT ty : TypeId} {d x d' x' v : Value} (hs : aCopy P dT d x h = some (v, h')) (hd : VR φ d d') (hx : VR φ x x') : SimV w0 P φ h w (Builtin.copy_ #[dT, xT] ty #[d', x']) v h' := by
 unfold aCopy at hs
 split at hs
 · rename_i el base dl dc n hu hn
   split at hs
   · rename_i k cs hk hcs
     rw [hk] at hcs
     simp only [Option.getD_some] at hcs
     have hlen := lenV_ok (P := P) (w := w) hn hx
     obtain ⟨cs', h1, h2⟩ := first_ok (P := P) r hcs hx
     have h1' := h1 w rfl
     have hmin : Nat.min n dl = min n dl := rfl
     split at hs
     · rename_i h0
       cases hs
       obtain ⟨h0, hnil⟩ := h0
       subst hnil
       cases h2
       have : ∃ b c, d' = .slice b dl c := by cases hd <;> exact ⟨_, _, rfl⟩
       obtain ⟨b, c, rfl⟩ := this
       refine .here r (v' := .int .i64 (min n dl : Nat)) ?_ (.int _ _)
       unfold Builtin.copy_
       simp only [List.getElem?_toArray, List.getElem?_cons_zero, List.getElem?_cons_succ, run_underlying hu, Sem.run_bind, Result.andThen_ok, hlen, hmin, rSz hk, h1']
       cases b <;> simp [storeCells, goInt]
     · split at hs
       · rename_i a
         split at hs
         · cases hs
         · rename_i hdd
           split at hs
           · rename_i h3 hset
             cases hs
             obtain ⟨i, c', hi, hsp, rfl⟩ := hd.sl_some (by omega) (by omega)
             obtain ⟨w2, hw2, r2⟩ := R.setcs (P := P) hi _ _ r hset h2
             refine ⟨.int .i64 (min n dl : Nat), w2, φ, ?_, Nx.setcs hi trivial _ _ hset, r2, .int _ _⟩
             unfold Builtin.copy_
             simp only [List.getElem?_toArray, List.getElem?_cons_zero, List.getElem?_cons_succ, run_underlying hu, Sem.run_bind, Result.andThen_ok, hlen, hmin, rSz hk, h1']
             simp [hw2, goInt]
           · cases hs
       · cases hs
   · cases hs
 · cases hs
def aLen (P : Program) (T : TypeId) (x : Value) (h : AH) : Option Value := match P.underlying T, x with
 | some .string, .string s => some (.int .i64 s.size)
 | some (.array n _), _ => some (.int .i64 n)
 | some (.slice _), .slice _ n _ => some (.int .i64 n)
 | some (.map _ _), .map none => some (.int .i64 0)
 | some (.map _ _), .map (some r) => (match h.m.get r with
  | some (.map es _ _) => some (.int .i64 es.length)
  | _ => none)
 | some (.pointer arr), _ => (match P.underlying arr with
  | some (.array n _) => some (.int .i64 n)
  | _ => none)
 | _, _ => none
theorem VR.map_inv {b : Nat} {v : Value} (hv : VR φ (.map (some b)) v) : ∃ i, φ b = some i ∧ v = .map (some i.c) := by
 cases hv with
 | map i hi => exact ⟨i, hi, rfl⟩
theorem R.map (r : R w0 φ h w) {b : Nat} {i : Im} {es : List (Value × Value × Nat)} {clock : Nat} {ro : Bool} (hi : φ b = some i) (ho : h.m.get b = some (.map es clock ro)) :
  ∃ arr, (getObj i.c).run P w = .ok (.map arr clock) w ∧ w.heap[i.c]? = some (.map arr clock) ∧ ER φ es arr.toList := by
 obtain ⟨arr, h1, h2⟩ := r.dom _ _ _ hi ho
 exact ⟨arr, by simp [getObj, Sem.run, h1], h1, h2⟩
theorem sim_len (r : R w0 φ h w) {T ty : TypeId} {x x' v : Value} (hs : aLen P T x h = some v) (hx : VR φ x x') : SimV w0 P φ h w (Builtin.len_ #[T] ty #[x']) v h := by
 unfold aLen at hs
 split at hs
 · rename_i s hu
   cases hs; cases hx
   exact .here r (v' := .int .i64 s.size) (by simp [Builtin.len_, run_underlying hu, goInt]) (.int _ _)
 · rename_i n el hu
   cases hs
   exact .here r (v' := .int .i64 n) (by simp [Builtin.len_, run_underlying hu, goInt]) (.int _ _)
 · rename_i el b n c hu
   cases hs
   have : ∃ b c, x' = .slice b n c := by cases hx <;> exact ⟨_, _, rfl⟩
   obtain ⟨b', c', rfl⟩ := this
   exact .here r (v' := .int .i64 n) (by simp [Builtin.len_, run_underlying hu, goInt]) (.int _ _)
 · rename_i k el hu
   cases hs; cases hx
   exact .here r (v' := .int .i64 0) (by simp [Builtin.len_, run_underlying hu, goInt]) (.int _ _)
 · rename_i k el b hu
   split at hs
   · rename_i es clock ro ho
     cases hs
     obtain ⟨i, hi, rfl⟩ := hx.map_inv
     obtain ⟨arr, h1, _, h2⟩ := r.map (P := P) hi ho
     refine .here r (v' := .int .i64 es.length) ?_ (.int _ _)
     have : arr.size = es.length := by rw [h2.length]; simp
     simp [Builtin.len_, run_underlying hu, goInt, h1, this]
   · cases hs
 · rename_i arr hu
   split at hs
   · rename_i n el hu2
     cases hs
     exact .here r (v' := .int .i64 n) (by simp [Builtin.len_, run_underlying hu, run_underlying hu2, goInt]) (.int _ _)
   · cases hs
 · cases hs
def aCap (P : Program) (T : TypeId) (x : Value) : Option Value := match P.underlying T, x with
 | some (.slice _), .slice _ _ n => if n = open_ then none else some (.int .i64 n)
 | _, _ => none
theorem sim_cap (r : R w0 φ h w) {T ty : TypeId} {x x' v : Value} (hs : aCap P T x = some v) (hx : VR φ x x') : SimV w0 P φ h w (Builtin.cap_ #[T] ty #[x']) v h := by
 unfold aCap at hs
 split at hs
 · rename_i el b l n hu
   split at hs
   · cases hs
   · rename_i hn
     cases hs
     have : ∃ b, x' = .slice b l n := by cases hx <;> first | exact ⟨_, rfl⟩ | exact (hn rfl).elim
     obtain ⟨b', rfl⟩ := this
     exact .here r (v' := .int .i64 n) (by simp [Builtin.cap_, run_underlying hu, goInt]) (.int _ _)
 · cases hs
def aClear (P : Program) (T : TypeId) (x : Value) (h : AH) : Option AH := match P.underlying T, x with
 | some (.slice el), .slice b n c => if n = 0 then some h else (match b, zeroOf P el with
  | some a, some z => if c = 0 then none else h.setcs a 0 (zrep n (cellsL z))
  | _, _ => none)
 | _, _ => none
theorem sim_clear (r : R w0 φ h w) {T ty : TypeId} {x x' : Value} (hs : aClear P T x h = some h') (hx : VR φ x x') : SimV w0 P φ h w (Builtin.clear_ #[T] ty #[x']) undef h' := by
 unfold aClear at hs
 split at hs
 · rename_i el b n c hu
   split at hs
   · rename_i h0
     cases hs
     subst h0
     have : ∃ b c, x' = .slice b 0 c := by cases hx <;> exact ⟨_, _, rfl⟩
     obtain ⟨b', c', rfl⟩ := this
     refine .here r (v' := undef) ?_ .undef
     cases b' <;> simp [Builtin.clear_, run_underlying hu, undef]
   · rename_i h0
     split at hs
     · rename_i a z hz
       split at hs
       · cases hs
       · rename_i hc
         obtain ⟨i, c', hi, hsp, rfl⟩ := hx.sl_some hc h0
         obtain ⟨hz1, hz2⟩ := rZero hz w
         obtain ⟨w2, hw2, r2⟩ := R.setcs (P := P) hi _ _ r hs (zrep_rel (pfv_refl φ hz2).cells n)
         refine ⟨undef, w2, φ, ?_, Nx.setcs hi trivial _ _ hs, r2, .undef⟩
         obtain ⟨m, rfl⟩ : ∃ m, n = m + 1 := ⟨n - 1, by omega⟩
         simp [Builtin.clear_, run_underlying hu, hz1, zcells, hw2, undef]
     · cases hs
 · cases hs
end
end Go.X
namespace Go.X
noncomputable section
open Go Go.RowKit
variable {w0 w w' : World} {φ φ' : Phi} {h h' : AH} {P : Program}
theorem pureRun_bind {α β : Type} {P : Program} {e : Sem α} {f : α → Sem β} {b : β} : pureRun P (e.bind f) = some b → ∃ a, pureRun P e = some a ∧ pureRun P (f a) = some b := by
 induction e with
 | pure a => intro h; exact ⟨a, rfl, h⟩
 | program k ih => intro h; exact ih P h
 | mark m k ih => intro h; exact ih h
 | _ => intro h; simp [Sem.bind, pureRun] at h
theorem pureRun_bind' {α β : Type} {P : Program} {e : Sem α} {f : α → Sem β} {b : β} (h : pureRun P (e >>= f) = some b) : ∃ a, pureRun P e = some a ∧ pureRun P (f a) = some b := pureRun_bind h
def blank (l : List MapEntry) : List MapEntry := l.map fun e => ⟨e.key, .nilIface, 0⟩
def valAt (l : List MapEntry) (i : Nat) : Value := (l[i]?.map fun e => e.val).getD .nilIface
theorem valAt_zero (e : MapEntry) (l : List MapEntry) : valAt (e :: l) 0 = e.val := rfl
theorem valAt_succ (e : MapEntry) (l : List MapEntry) (i : Nat) : valAt (e :: l) (i + 1) = valAt l i := by simp [valAt]
theorem valAt_of {l : List MapEntry} {i : Nat} {e : MapEntry} (h : l[i]? = some e) : valAt l i = e.val := by simp [valAt, h]
theorem findNow_blank (kind : TypeDesc) (k : Value) : ∀ (l : List MapEntry) (i : Nat), Instr.findNow kind k l i = match Instr.findNow kind k (blank l) i with
  | none => none
  | some none => some none
  | some (some (j, _)) => some (some (j, valAt l (j - i)))
 | [], i => by simp [blank, Instr.findNow]
 | e :: l, i => by
  simp only [blank, List.map_cons, Instr.findNow]
  cases Instr.sameNow kind k e.key with
  | none => rfl
  | some b =>
   cases b with
   | true => simp [valAt_zero]
   | false =>
    dsimp only
    have ih := findNow_blank kind k l (i + 1)
    rw [ih]
    have mono : ∀ (m : List MapEntry) (q : Nat) (j : Nat) (v : Value), Instr.findNow kind k m q = some (some (j, v)) → q ≤ j := by
     intro m
     induction m with
     | nil => intro q j v h; simp [Instr.findNow] at h
     | cons e m ihm =>
      intro q j v h
      simp only [Instr.findNow] at h
      split at h
      · cases h; exact Nat.le_refl _
      · have := ihm _ _ _ h; omega
      · cases h
    show (match Instr.findNow kind k (blank l) (i + 1) with | none => none | some none => some none | some (some (j, _)) => some (some (j, valAt l (j - (i + 1))))) = _
    cases hf : Instr.findNow kind k (blank l) (i + 1) with
    | none => rw [show List.map (fun e => (⟨e.key, .nilIface, 0⟩ : MapEntry)) l = blank l from rfl, hf]
    | some o =>
     rw [show List.map (fun e => (⟨e.key, .nilIface, 0⟩ : MapEntry)) l = blank l from rfl, hf]
     cases o with
     | none => rfl
     | some p =>
      obtain ⟨j, v⟩ := p
      have hj := mono _ _ _ _ hf
      dsimp only
      rw [show j - i = (j - (i + 1)) + 1 by omega, valAt_succ]
theorem findAsking_blank {kt : TypeId} {k : Value} : ∀ (l : List MapEntry) (i : Nat) {o : Option (Nat × Value)}, pureRun P (Instr.findAsking kt k (blank l) i) = some o →
  pureRun P (Instr.findAsking kt k l i) = some (o.map fun p => (p.1, (valAt l (p.1 - i)))) ∧ ∀ p, o = some p → i ≤ p.1
 | [], i, o, h => by
  simp only [blank, List.map_nil, Instr.findAsking] at h ⊢
  have : o = none := by
   have h' : pureRun P (Sem.pure (none : Option (Nat × Value))) = some o := h
   simp only [pureRun] at h'; cases h'; rfl
  subst this
  exact ⟨rfl, fun p hp => by cases hp⟩
 | e :: l, i, o, h => by
  simp only [blank, List.map_cons, Instr.findAsking] at h ⊢
  obtain ⟨b, h1, h2⟩ := pureRun_bind' h
  have back : ∀ {β : Type} {f : Bool → Sem β} {x : Sem Bool} {r : Option β}, pureRun P x = some b → pureRun P (f b) = r → pureRun P (x >>= f) = r := by
   intro β f x r hx hf
   subst hf
   show pureRun P (x.bind f) = _
   clear h1 h
   induction x with
   | pure a => simp only [pureRun] at hx; cases hx; rfl
   | program k ih => exact ih P hx
   | mark m k ih => exact ih hx
   | _ => simp [pureRun] at hx
  cases b with
  | true =>
   rw [if_pos rfl] at h2
   have h2' : pureRun P (Sem.pure (some (i, Value.nilIface))) = some o := h2
   simp only [pureRun] at h2'
   cases h2'
   refine ⟨back h1 ?_, fun p hp => by cases hp; exact Nat.le_refl _⟩
   rw [if_pos rfl]
   simp [pure, pureRun, valAt_zero]
  | false =>
   rw [if_neg (by simp)] at h2
   obtain ⟨h3, h4⟩ := findAsking_blank l (i + 1) h2
   refine ⟨back h1 ?_, fun p hp => by have := h4 p hp; omega⟩
   rw [if_neg (by simp), h3]
   cases o with
   | none => rfl
   | some p =>
    have := h4 p rfl
    simp only [Option.map_some]
    rw [show p.1 - i = (p.1 - (i + 1)) + 1 by omega, valAt_succ]
theorem findKey_blank {kt : TypeId} {k : Value} {l : List MapEntry} {o : Option (Nat × Value)} (h : pureRun P (Instr.findKey kt k (blank l)) = some o) (w : World) :
  (Instr.findKey kt k l).run P w = .ok (o.map fun p => (p.1, valAt l p.1)) w := by
 unfold Instr.findKey at h ⊢
 obtain ⟨d, h1, h2⟩ := pureRun_bind' h
 have hr := run_of_pure h1 w
 rw [Sem.run_bind, hr, Result.andThen_ok, findNow_blank]
 cases hf : Instr.findNow d k (blank l) 0 with
 | none =>
  rw [hf] at h2
  have := (findAsking_blank l 0 h2).1
  simpa using run_of_pure this w
 | some r =>
  rw [hf] at h2
  have h2' : pureRun P (Sem.pure r) = some o := h2
  simp only [pureRun] at h2'
  cases h2'
  cases o with
  | none => simp
  | some p => simp
def keysOf (es : List (Value × Value × Nat)) : List MapEntry := es.map fun e => ⟨e.1, .nilIface, 0⟩
def aFind (P : Program) (kt : TypeId) (k : Value) (es : List (Value × Value × Nat)) : Option (Option Nat) :=
 if pfv k && es.all (fun e => pfv e.1) then (match pureRun P (Instr.findKey kt k (keysOf es)) with
  | some o => some (o.map (·.1))
  | none => none) else none
theorem ER.keys {es : List (Value × Value × Nat)} {l : List MapEntry} (he : ER φ es l) (hp : es.all (fun e => pfv e.1) = true) : keysOf es = blank l := by
 induction he with
 | nil => rfl
 | cons hk hv _ ih =>
  simp only [List.all_cons, Bool.and_eq_true] at hp
  have := pfv_same hp.1 hk
  subst this
  simp only [keysOf, blank, List.map_cons] at ih ⊢
  rw [ih hp.2]
theorem ER.get {es : List (Value × Value × Nat)} {l : List MapEntry} (he : ER φ es l) : ∀ {i : Nat} {e : Value × Value × Nat}, es[i]? = some e → ∃ e', l[i]? = some e' ∧ VR φ e.1 e'.key ∧ VR φ e.2.1 e'.val ∧ e'.born = e.2.2 := by
 induction he with
 | nil => intro i e h; simp at h
 | cons hk hv _ ih =>
  intro i e h
  cases i with
  | zero => simp at h; subst h; exact ⟨_, rfl, hk, hv, rfl⟩
  | succ i => simp at h; simpa using ih h
theorem find_ok {kt : TypeId} {k k' : Value} {es : List (Value × Value × Nat)} {l : List MapEntry} {o : Option Nat} (hs : aFind P kt k es = some o) (hk : VR φ k k') (he : ER φ es l) (w : World) :
   k' = k ∧ (∀ e, e ∈ es → pfv e.1 = true) ∧ ∃ o', (Instr.findKey kt k' l).run P w = .ok o' w ∧ match o with
     | none => o' = none
     | some i => o' = some (i, valAt l i) := by
 unfold aFind at hs
 split at hs
 · rename_i hp
   simp only [Bool.and_eq_true] at hp
   obtain rfl := pfv_same hp.1 hk
   refine ⟨rfl, fun e hm => List.all_eq_true.1 hp.2 e hm, ?_⟩
   split at hs
   · rename_i o1 ho
     cases hs
     rw [he.keys hp.2] at ho
     refine ⟨_, findKey_blank ho w, ?_⟩
     cases o1 with
     | none => rfl
     | some p => rfl
   · cases hs
 · cases hs
def aCheckKey (P : Program) (e : Bool) (kt : TypeId) (k : Value) : Bool := (pureRun P (Instr.checkKey e 10000 kt k)).isSome
theorem checkKey_ok {e : Bool} {kt : TypeId} {k : Value} (hc : aCheckKey P e kt k = true) (w : World) : (Instr.checkKey e 10000 kt k).run P w = .ok () w := by
 unfold aCheckKey at hc
 obtain ⟨u, hu⟩ := Option.isSome_iff_exists.1 hc
 exact run_of_pure hu w
def tupOk (commaOk : Bool) (v : Value) (ok : Bool) : Value := if commaOk then .tuple #[v, .bool ok] else v
theorem tupOk_rel {c ok : Bool} {v v' : Value} (hv : VR φ v v') : VR φ (tupOk c v ok) (tupOk c v' ok) := by
 unfold tupOk
 split
 · exact .tuple' (.cons hv (.cons (.bool _) .nil))
 · exact hv
def aLookup (P : Program) (T : TypeId) (x k : Value) (c : Bool) (h : AH) : Option Value := match P.underlying T with
 | some (.map kt el) => (match (match x with
   | .map none => some []
   | .map (some r) => (match h.m.get r with
    | some (.map es _ _) => some es
    | _ => none)
   | _ => none) with
  | some es => if aCheckKey P es.isEmpty kt k then (match aFind P kt k es with
   | some (some i) => (match es[i]? with
    | some e => some (tupOk c e.2.1 true)
    | none => none)
   | some none => (match zeroOf P el with
    | some z => some (tupOk c z false)
    | none => none)
   | none => none) else none
  | none => none)
 | _ => none
theorem sim_lookup (r : R w0 φ h w) {T : TypeId} {x k x' k' v : Value} {c : Bool} (hs : aLookup P T x k c h = some v) (hx : VR φ x x') (hk : VR φ k k') : SimV w0 P φ h w (Instr.lookup T x' k' c) v h := by
 unfold aLookup at hs
 split at hs
 · rename_i kt el hu
   split at hs
   · rename_i es hes
     have hex : ∃ arr : Array MapEntry, ER φ es arr.toList ∧ arr.isEmpty = es.isEmpty ∧ ((x' = .map none ∧ arr = #[]) ∨ ∃ b cl, x' = .map (some b) ∧ (getObj b).run P w = .ok (.map arr cl) w) := by
       split at hes
       · cases hes; cases hx
         exact ⟨#[], .nil, rfl, .inl ⟨rfl, rfl⟩⟩
       · split at hes
         · rename_i b es' cl ro ho
           cases hes
           obtain ⟨i, hi, rfl⟩ := hx.map_inv
           obtain ⟨arr, h1, _, h2⟩ := r.map (P := P) hi ho
           refine ⟨arr, h2, ?_, .inr ⟨_, _, rfl, h1⟩⟩
           have hl : es.length = arr.size := by rw [h2.length]; simp
           rw [Bool.eq_iff_iff, Array.isEmpty_iff_size_eq_zero, List.isEmpty_iff_length_eq_zero, hl]
         · cases hes
       · cases hes
     obtain ⟨arr, her, hemp, hx'⟩ := hex
     split at hs
     · rename_i hck
       have fin : ∀ {o : Option Nat}, aFind P kt k es = some o → k' = k ∧ ∀ (v' : Value) , (match o with
           | none => (zeroValue el).run P w = .ok v' w
           | some i => v' = valAt arr.toList i) → (Instr.lookup T x' k' c).run P w = .ok (tupOk c v' o.isSome) w := by
         intro o ho
         obtain ⟨rfl, _, o', h3, h4⟩ := find_ok ho hk her w
         refine ⟨rfl, fun v' hv' => ?_⟩
         have hc := checkKey_ok hck w
         unfold Instr.lookup
         simp only [Sem.run_bind, run_underlying hu, Result.andThen_ok]
         rcases hx' with ⟨rfl, rfl⟩ | ⟨b, cl, rfl, hb⟩
         · have hc' : (Instr.checkKey (#[] : Array MapEntry).isEmpty 10000 kt k').run P w = .ok () w := by rw [hemp]; exact hc
           simp only [Sem.run_pure, Sem.run_bind, Result.andThen_ok, hc', h3]
           cases o with
           | none => subst h4; simp [hv', tupOk]
           | some i => subst h4; simp [hv', tupOk]
         · have hc' : (Instr.checkKey arr.isEmpty 10000 kt k').run P w = .ok () w := by rw [hemp]; exact hc
           simp only [Sem.run_pure, Sem.run_bind, Result.andThen_ok, hb, hc', h3]
           cases o with
           | none => subst h4; simp [hv', tupOk]
           | some i => subst h4; simp [hv', tupOk]
       split at hs
       · rename_i i hf
         split at hs
         · rename_i e he
           cases hs
           obtain ⟨e', h5, h6, h7, _⟩ := her.get he
           have := (fin hf).2 e'.val (valAt_of h5).symm
           exact .here r this (tupOk_rel h7)
         · cases hs
       · rename_i hf
         split at hs
         · rename_i z hz
           cases hs
           obtain ⟨hz1, hz2⟩ := rZero hz w
           exact .here r ((fin hf).2 z hz1) (tupOk_rel (pfv_refl φ hz2))
         · cases hs
       · cases hs
     · cases hs
   · cases hs
 · cases hs
def setV : List (Value × Value × Nat) → Nat → Value → Value → List (Value × Value × Nat)
 | [], _, _, _ => []
 | (_, _, b) :: l, 0, k, v => (k, v, b) :: l
 | e :: l, i + 1, k, v => e :: setV l i k v
theorem ER.setV {es : List (Value × Value × Nat)} {l : List MapEntry} (he : ER φ es l) {k v k' v' : Value} (hk : VR φ k k') (hv : VR φ v v') : ∀ i, ER φ (setV es i k v) (l.modify i fun e => { e with key := k', val := v' }) := by
 induction he with
 | nil => intro i; cases i <;> exact .nil
 | cons h1 h2 t ih =>
  intro i
  cases i with
  | zero => exact .cons hk hv t
  | succ i => exact .cons h1 h2 (ih i)
theorem ER.append {es es2 : List (Value × Value × Nat)} {l l2 : List MapEntry} (he : ER φ es l) (h2 : ER φ es2 l2) : ER φ (es ++ es2) (l ++ l2) := by
 induction he with
 | nil => exact h2
 | cons h1 h2 _ ih => exact .cons h1 h2 ih
theorem ER.push {es : List (Value × Value × Nat)} {l : List MapEntry} (he : ER φ es l) {k v k' v' : Value} (hk : VR φ k k') (hv : VR φ v v') (b : Nat) : ER φ (es ++ [(k, v, b)]) (l ++ [⟨k', v', b⟩]) :=
 he.append (.cons hk hv .nil)
theorem ER.erase {es : List (Value × Value × Nat)} {l : List MapEntry} (he : ER φ es l) : ∀ i, ER φ (es.eraseIdx i) (l.eraseIdx i) := by
 induction he with
 | nil => intro i; simp; exact .nil
 | cons h1 h2 t ih =>
  intro i
  cases i with
  | zero => simpa using t
  | succ i => simpa using .cons h1 h2 (ih i)
theorem R.setMap (r : R w0 φ h w) {b : Nat} {i : Im} {es es2 : List (Value × Value × Nat)} {cl cl2 : Nat} {arr2 : Array MapEntry} (hi : φ b = some i) (ho : h.m.get b = some (.map es cl false)) (he : ER φ es2 arr2.toList) :
  (setObj i.c (.map arr2 cl2)).run P w = .ok () (putW w i.c (.map arr2 cl2)) ∧ R w0 φ { h with m := h.m.set b (some (.map es2 cl2 false)) } (putW w i.c (.map arr2 cl2)) ∧ Nx φ φ h { h with m := h.m.set b (some (.map es2 cl2 false)) } := by
 obtain ⟨arr, h1, h2, h3⟩ := r.map (P := P) hi ho
 refine ⟨?_, r.put hi ho rfl (fun w' hw' => ⟨arr2, hw', he⟩), Nx.put hi trivial⟩
 simp [setObj, Sem.run, h2, putW]
def aSetMap (h : AH) (b : Nat) (es : List (Value × Value × Nat)) (cl : Nat) : AH := { h with m := h.m.set b (some (.map es cl false)) }
def stays (old new : Value) : Bool := Instr.sameBits 10000 old new
theorem stays_ok {old new : Value} (hs : stays old new = true) (w : World) : (Instr.keyThatStays old new).run P w = .ok new w := by
 unfold Instr.keyThatStays
 unfold stays at hs
 rw [if_pos hs]; rfl
def aUpdate (P : Program) (T : TypeId) (x k v : Value) (h : AH) : Option AH := match P.underlying T, x with
 | some (.map kt _), .map (some b) => (match h.m.get b with
  | some (.map es cl false) => if aCheckKey P false kt k then (match aFind P kt k es with
   | some (some i) => (match es[i]? with
    | some e => if stays e.1 k then some (aSetMap h b (setV es i k v) cl) else none
    | none => none)
   | some none => some (aSetMap h b (es ++ [(k, v, cl)]) (cl + 1))
   | none => none) else none
  | _ => none)
 | _, _ => none
theorem toList_modify {α : Type} (a : Array α) (i : Nat) (f : α → α) : (a.modify i f).toList = a.toList.modify i f := by simp
theorem sim_update (r : R w0 φ h w) {T : TypeId} {x k v x' k' v' : Value} (hs : aUpdate P T x k v h = some h') (hx : VR φ x x') (hk : VR φ k k') (hv : VR φ v v') :
   ∃ w', (Instr.mapUpdate T x' k' v').run P w = .ok () w' ∧ Nx φ φ h h' ∧ R w0 φ h' w' := by
 unfold aUpdate at hs
 split at hs
 · rename_i kt el b hu
   split at hs
   · rename_i es cl ho
     split at hs
     · rename_i hck
       obtain ⟨i, hi, rfl⟩ := hx.map_inv
       obtain ⟨arr, h1, _, h2⟩ := r.map (P := P) hi ho
       have hc := checkKey_ok hck w
       unfold Instr.mapUpdate
       simp only [Sem.run_bind, run_underlying hu, Result.andThen_ok]
       split at hs
       · rename_i j hf
         split at hs
         · rename_i e he
           split at hs
           · rename_i hst
             cases hs
             obtain ⟨rfl, hpk, o', h3, h4⟩ := find_ok hf hk h2 w
             subst h4
             obtain ⟨e', h5, h6, h7, _⟩ := h2.get he
             have hke : e'.key = e.1 := pfv_same (hpk e (List.mem_of_getElem? he)) h6
             have hold : ((arr[j]?.map (·.key)).getD k') = e.1 := by
              rw [Array.getElem?_toList] at h5
              rw [h5]; exact hke
             obtain ⟨q1, q2, q3⟩ := r.setMap (P := P) (cl2 := cl) (es2 := setV es j k' v) (arr2 := arr.modify j fun e => { e with key := k', val := v' }) hi ho (by rw [toList_modify]; exact h2.setV hk hv j)
             refine ⟨_, ?_, q3, q2⟩
             simp only [h1, Result.andThen_ok, Sem.run_bind, hc, h3, hold, stays_ok hst, q1]
           · cases hs
         · cases hs
       · rename_i hf
         cases hs
         obtain ⟨rfl, hpk, o', h3, h4⟩ := find_ok hf hk h2 w
         subst h4
         obtain ⟨q1, q2, q3⟩ := r.setMap (P := P) (cl2 := cl + 1) (es2 := es ++ [(k', v, cl)]) (arr2 := arr.push ⟨k', v', cl⟩) hi ho (by rw [Array.toList_push]; exact h2.push hk hv cl)
         refine ⟨_, ?_, q3, q2⟩
         simp only [h1, Result.andThen_ok, Sem.run_bind, hc, h3, q1]
       · cases hs
     · cases hs
   · cases hs
 · cases hs
def aEntry (P : Program) (T : TypeId) (x k : Value) (h : AH) : Option (Value × AH) := match P.underlying T, x with
 | some (.map kt el), .map (some b) => (match h.m.get b with
  | some (.map es cl false) => if aCheckKey P false kt k then (match aFind P kt k es with
   | some (some i) => (match es[i]? with
    | some e => if stays e.1 k then some (.tuple #[e.2.1, .int .i64 e.2.2], aSetMap h b (setV es i k e.2.1) cl) else none
    | none => none)
   | some none => (match zeroOf P el with
    | some z => some (.tuple #[z, .int .i64 cl], aSetMap h b (es ++ [(k, z, cl)]) (cl + 1))
    | none => none)
   | none => none) else none
  | _ => none)
 | _, _ => none
theorem modify_key {l : List MapEntry} {j : Nat} {k : Value} {e : MapEntry} (he : l[j]? = some e) : (l.modify j fun x => { x with key := k }) = l.modify j fun x => { x with key := k, val := e.val } := by
 apply List.ext_getElem?
 intro i
 rw [List.getElem?_modify, List.getElem?_modify]
 by_cases hij : j = i
 · subst hij; simp [he]
 · simp [hij]
theorem sim_entry (r : R w0 φ h w) {T : TypeId} {x k x' k' v : Value} (hs : aEntry P T x k h = some (v, h')) (hx : VR φ x x') (hk : VR φ k k') : SimV w0 P φ h w (Instr.mapEntry T x' k') v h' := by
 unfold aEntry at hs
 split at hs
 · rename_i kt el b hu
   split at hs
   · rename_i es cl ho
     split at hs
     · rename_i hck
       obtain ⟨i, hi, rfl⟩ := hx.map_inv
       obtain ⟨arr, h1, _, h2⟩ := r.map (P := P) hi ho
       have hc := checkKey_ok hck w
       unfold Instr.mapEntry
       split at hs
       · rename_i j hf
         split at hs
         · rename_i e he
           split at hs
           · rename_i hst
             cases hs
             obtain ⟨rfl, hpk, o', h3, h4⟩ := find_ok hf hk h2 w
             subst h4
             obtain ⟨e', h5, h6, h7, h8⟩ := h2.get he
             have hke : e'.key = e.1 := pfv_same (hpk e (List.mem_of_getElem? he)) h6
             have h5' := h5
             rw [Array.getElem?_toList] at h5
             have hold : ((arr[j]?.map (·.key)).getD k') = e.1 := by rw [h5]; exact hke
             have hborn : ((arr[j]?.map (fun x => (x.born : Int))).getD 0) = (e.2.2 : Int) := by rw [h5]; show (e'.born : Int) = _; rw [h8]
             obtain ⟨q1, q2, q3⟩ := r.setMap (P := P) (cl2 := cl) (es2 := setV es j k' e.2.1) (arr2 := arr.modify j fun e => { e with key := k' }) hi ho
              (by rw [toList_modify, modify_key h5']; exact h2.setV hk h7 j)
             refine ⟨.tuple #[e'.val, .int .i64 e.2.2], _, φ, ?_, q3, q2, .tuple' (.cons h7 (.cons (.int _ _) .nil))⟩
             simp only [Sem.run_bind, run_underlying hu, Result.andThen_ok, h1, hc, h3, hold, hborn, stays_ok hst, q1, valAt_of h5', goInt, Sem.run_pure]
           · cases hs
         · cases hs
       · rename_i hf
         split at hs
         · rename_i z hz
           cases hs
           obtain ⟨hz1, hz2⟩ := rZero hz w
           obtain ⟨rfl, hpk, o', h3, h4⟩ := find_ok hf hk h2 w
           subst h4
           obtain ⟨q1, q2, q3⟩ := r.setMap (P := P) (cl2 := cl + 1) (es2 := es ++ [(k', z, cl)]) (arr2 := arr.push ⟨k', z, cl⟩) hi ho (by rw [Array.toList_push]; exact h2.push hk (pfv_refl φ hz2) cl)
           refine ⟨.tuple #[z, .int .i64 cl], _, φ, ?_, q3, q2, .tuple' (.cons (pfv_refl φ hz2) (.cons (.int _ _) .nil))⟩
           simp only [Sem.run_bind, run_underlying hu, Result.andThen_ok, h1, hc, h3, q1, hz1, goInt, Sem.run_pure]
         · cases hs
       · cases hs
     · cases hs
   · cases hs
 · cases hs
def bornIdx : List (Value × Value × Nat) → Int → Nat → Option Nat
 | [], _, _ => none
 | e :: l, b, i => if (e.2.2 : Int) = b then some i else bornIdx l b (i + 1)
theorem bornIdx_ok {es : List (Value × Value × Nat)} {l : List MapEntry} (he : ER φ es l) : ∀ (b : Int) (q : Nat), bornIdx es b q = (l.findIdx? (fun e => (e.born : Int) == b)).map (q + ·) := by
 induction he with
 | nil => intro b q; rfl
 | @cons k v k' v' b0 l l' hk hv t ih =>
  intro b q
  simp only [bornIdx, List.findIdx?_cons]
  by_cases e : (b0 : Int) = b
  · simp [e]
  · rw [if_neg e, ih]
    have : ((b0 : Int) == b) = false := by simpa using e
    simp only [this, Bool.false_eq_true, if_false, Option.map_map]
    congr 1
    funext x
    simp only [Function.comp]
    omega
def aEStore (T : TypeId) (x s v : Value) (h : AH) : Option AH := match x, s with
 | .map (some b), .int _ st => (match h.m.get b with
  | some (.map es cl false) => (match bornIdx es st 0 with
   | some i => (match es[i]? with
    | some e => some (aSetMap h b (setV es i e.1 v) cl)
    | none => none)
   | none => none)
  | _ => none)
 | _, _ => if T = T then none else none
theorem modify_val {l : List MapEntry} {j : Nat} {v : Value} {e : MapEntry} (he : l[j]? = some e) : (l.modify j fun x => { x with val := v }) = l.modify j fun x => { x with key := e.key, val := v } := by
 apply List.ext_getElem?
 intro i
 rw [List.getElem?_modify, List.getElem?_modify]
 by_cases hij : j = i
 · subst hij; simp [he]
 · simp [hij]
theorem sim_estore (r : R w0 φ h w) {T : TypeId} {x k v x' k' v' : Value} (hs : aEStore T x k v h = some h') (hx : VR φ x x') (hk : VR φ k k') (hv : VR φ v v') :
   ∃ w', (Instr.entryStore T x' k' v').run P w = .ok () w' ∧ Nx φ φ h h' ∧ R w0 φ h' w' := by
 unfold aEStore at hs
 split at hs
 · rename_i b kk st
   split at hs
   · rename_i es cl ho
     split at hs
     · rename_i j hj
       split at hs
       · rename_i e he
         cases hs
         obtain ⟨i, hi, rfl⟩ := hx.map_inv
         obtain rfl := hk.int_inv
         obtain ⟨arr, h1, _, h2⟩ := r.map (P := P) hi ho
         obtain ⟨e', h5, h6, h7, h8⟩ := h2.get he
         have hfi : arr.findIdx? (fun e => (e.born : Int) == st) = some j := by
          have := bornIdx_ok h2 st 0
          rw [hj] at this
          have e9 : arr.findIdx? (fun e => (e.born : Int) == st) = arr.toList.findIdx? (fun e => (e.born : Int) == st) := by
           rw [← List.findIdx?_toArray, Array.toArray_toList]
          rw [e9]
          cases hq : arr.toList.findIdx? (fun e => (e.born : Int) == st) with
          | none => rw [hq] at this; cases this
          | some q => rw [hq] at this; simpa using this.symm
         obtain ⟨q1, q2, q3⟩ := r.setMap (P := P) (cl2 := cl) (es2 := setV es j e.1 v) (arr2 := arr.modify j fun e => { e with val := v' }) hi ho (by rw [toList_modify, modify_val h5]; exact h2.setV h6 hv j)
         refine ⟨_, ?_, q3, q2⟩
         simp only [Instr.entryStore, Sem.run_bind, h1, Result.andThen_ok, asInt, asIntOf, Sem.run_pure, hfi, q1]
       · cases hs
     · cases hs
   · cases hs
 · simp at hs
def aDelete (P : Program) (T : TypeId) (x k : Value) (h : AH) : Option AH := match P.underlying T, x with
 | some (.map kt _), .map (some b) => (match h.m.get b with
  | some (.map es cl false) => if aCheckKey P es.isEmpty kt k then (match aFind P kt k es with
   | some (some i) => some (aSetMap h b (es.eraseIdx i) cl)
   | some none => some (aSetMap h b es cl)
   | none => none) else none
  | _ => none)
 | _, _ => none
theorem sim_delete (r : R w0 φ h w) {T ty T2 : TypeId} {x k x' k' : Value} (hs : aDelete P T x k h = some h') (hx : VR φ x x') (hk : VR φ k k') : SimV w0 P φ h w (Builtin.delete_ #[T, T2] ty #[x', k']) undef h' := by
 unfold aDelete at hs
 split at hs
 · rename_i kt el b hu
   split at hs
   · rename_i es cl ho
     split at hs
     · rename_i hck
       obtain ⟨i, hi, rfl⟩ := hx.map_inv
       obtain ⟨arr, h1, _, h2⟩ := r.map (P := P) hi ho
       have hemp : arr.isEmpty = es.isEmpty := by
         have hl : es.length = arr.size := by rw [h2.length]; simp
         rw [Bool.eq_iff_iff, Array.isEmpty_iff_size_eq_zero, List.isEmpty_iff_length_eq_zero, hl]
       have hc := checkKey_ok hck w
       rw [← hemp] at hc
       split at hs
       · rename_i j hf
         cases hs
         obtain ⟨rfl, hpk, o', h3, h4⟩ := find_ok hf hk h2 w
         subst h4
         obtain ⟨q1, q2, q3⟩ := r.setMap (P := P) (cl2 := cl) (es2 := es.eraseIdx j) (arr2 := arr.eraseIdxIfInBounds j) hi ho (by rw [Array.toList_eraseIdxIfInBounds]; exact h2.erase j)
         refine ⟨undef, _, φ, ?_, q3, q2, .undef⟩
         simp [Builtin.delete_, run_underlying hu, h1, hc, h3, q1, undef]
       · rename_i hf
         cases hs
         obtain ⟨rfl, hpk, o', h3, h4⟩ := find_ok hf hk h2 w
         subst h4
         obtain ⟨q1, q2, q3⟩ := r.setMap (P := P) (cl2 := cl) (es2 := es) (arr2 := arr) hi ho h2
         refine ⟨undef, _, φ, ?_, q3, q2, .undef⟩
         simp [Builtin.delete_, run_underlying hu, h1, hc, h3, q1, undef]
       · cases hs
     · cases hs
   · cases hs
 · cases hs
end
end Go.X
namespace Go.X
noncomputable section
open Go Go.RowKit
variable {w0 w w' : World} {φ φ' : Phi} {h h' : AH} {P : Program}
def AH.newObj (h : AH) (o : AObj) : Option (Nat × AH) := if true = true then some (h.next, ⟨h.m.set h.next (some o), h.next + 1⟩) else none
theorem R.newObj (r : R w0 φ h w) {o : AObj} {x : Obj} {b : Nat} (hs : h.newObj o = some (b, h')) (hx : ∀ φ' w', Le φ φ' → w'.heap[w.heap.size]? = some x → OR φ' ⟨w.heap.size, 0, 0, 0, 0⟩ w' o) :
   ∃ φ', Nx φ φ' h h' ∧ φ' b = some ⟨w.heap.size, 0, 0, 0, 0⟩ ∧ R w0 φ' h' (w.alloc x) := by
 unfold AH.newObj at hs
 split at hs
 · rename_i _
   cases hs
   obtain ⟨φ', le, h1, h2, h3⟩ := r.new (i := ⟨w.heap.size, 0, 0, 0, 0⟩) (o := o) (x := x) rfl trivial hx
   exact ⟨φ', .new le h3 trivial, h1, h2⟩
 · cases hs
def resOk (P : Program) (T : TypeId) : Option Value → Bool
 | none => true
 | some (.int _ _) => (match P.underlying T with | some (.map _ _) => true | _ => false)
 | _ => false
def aMakeMap (P : Program) (T : TypeId) (res : Option Value) (h : AH) : Option (Value × AH) :=
 if resOk P T res then (match h.newObj (.map [] 0 false) with
  | some (b, h') => some (.map (some b), h')
  | none => none) else none
def aRange (P : Program) (T : TypeId) (x : Value) (h : AH) : Option (Value × AH) :=
 match (match P.underlying T, x with
  | some .string, .string s => some (AObj.sit s 0)
  | some (.map _ _), .map none => some (.iter none 0 [] 0)
  | some (.map _ _), .map (some b) => (match h.m.get b with
   | some (.map _ cl _) => some (.iter (some b) cl [] cl)
   | _ => none)
  | _, _ => none) with
 | some o => (match h.newObj o with
  | some (b, h') => some (.pointer (some ⟨b, 0, none⟩), h')
  | none => none)
 | none => none
theorem sim_range (r : R w0 φ h w) {T : TypeId} {x x' v : Value} (hs : aRange P T x h = some (v, h')) (hx : VR φ x x') : SimV w0 P φ h w (Instr.range T x') v h' := by
 unfold aRange at hs
 split at hs
 · rename_i o ho
   split at hs
   · rename_i b h1 hn
     cases hs
     have fin : ∀ {y : Obj}, (∀ φ' w', Le φ φ' → w'.heap[w.heap.size]? = some y → OR φ' ⟨w.heap.size, 0, 0, 0, 0⟩ w' o) → (Instr.range T x').run P w = .ok (.pointer (some ⟨w.heap.size, 0, none⟩)) (w.alloc y) →
         SimV w0 P φ h w (Instr.range T x') (.pointer (some ⟨b, 0, none⟩)) h' := by
       intro y hy hrun
       obtain ⟨φ', nx, hb, r'⟩ := r.newObj (x := y) hn hy
       exact ⟨_, _, φ', hrun, nx, r', .ptr (a := ⟨b, 0, none⟩) ⟨w.heap.size, 0, 0, 0, 0⟩ hb rfl⟩
     split at ho
     · rename_i s hu
       cases ho; cases hx
       exact fin (y := .stringIter s 0) (fun φ' w' _ hw => ⟨rfl, hw⟩) (by simp [Instr.range, run_underlying hu])
     · rename_i k el hu
       cases ho; cases hx
       exact fin (y := .mapIter none 0 #[] 0) (fun φ' w' _ hw => ⟨rfl, none, hw, .nilm⟩) (by simp [Instr.range, run_underlying hu])
     · rename_i k el bm hu
       split at ho
       · rename_i es cl ro hm
         cases ho
         obtain ⟨i, hi, rfl⟩ := hx.map_inv
         obtain ⟨arr, h1, _, h2⟩ := r.map (P := P) hi hm
         exact fin (y := .mapIter (some i.c) cl #[] cl) (fun φ' w' le hw => ⟨rfl, some i.c, hw, .map i (le _ _ hi)⟩) (by simp [Instr.range, run_underlying hu, h1])
       · cases ho
     · cases ho
   · cases hs
 · cases hs
def nextOuts (h : AH) (b bm : Nat) (since : Nat) (seen : List Nat) (cl : Nat) (es : List (Value × Value × Nat)) : List (Value × AH) :=
 let left := es.filter fun e => !seen.contains e.2.2
 let old := left.filter fun e => decide (e.2.2 < since)
 let new := left.filter fun e => !decide (e.2.2 < since)
 (if old.isEmpty then [(.tuple #[.bool false], h)] else []) ++
  (old ++ new).map fun e => (.tuple #[.bool true, e.1, e.2.1], { h with m := h.m.set b (some (.iter (some bm) since (seen ++ [e.2.2]) cl)) })
def aNext (it : Value) (isString : Bool) (h : AH) : Option (List (Value × AH)) := match it with
  | .pointer (some ⟨b, 0, none⟩) => (match h.m.get b, isString with
    | some (.sit s p), true => if p < s.size then
        (match Utf8.decode s p with
         | (c, width) => some [(.tuple #[.bool true, .int .i64 p, .int .i32 c], { h with m := h.m.set b (some (.sit s (p + width))) })])
      else some [(.tuple #[.bool false], h)]
    | some (.iter none _ _ _), false => some [(.tuple #[.bool false], h)]
    | some (.iter (some bm) since seen st), false => (match h.m.get bm with
      | some (.map es cl _) => if !seen.isEmpty && !es.isEmpty && es.all (fun e => decide (e.2.2 ≥ st)) then none else some (nextOuts h b bm since seen cl es)
      | _ => none)
    | _, _ => none)
  | _ => none
theorem ER.filter {es : List (Value × Value × Nat)} {l : List MapEntry} (he : ER φ es l) (p : Nat → Bool) : ER φ (es.filter fun e => p e.2.2) (l.filter fun e => p e.born) := by
 induction he with
 | nil => exact .nil
 | @cons k v k' v' b l l' hk hv _ ih =>
  simp only [List.filter_cons]
  by_cases hb : p b = true
  · rw [if_pos hb, if_pos hb]; exact .cons hk hv ih
  · rw [if_neg hb, if_neg hb]; exact ih
theorem ER.all {es : List (Value × Value × Nat)} {l : List MapEntry} (he : ER φ es l) (p : Nat → Bool) : (es.all fun e => p e.2.2) = (l.all fun e => p e.born) := by
 induction he with
 | nil => rfl
 | cons _ _ _ ih => simp [List.all_cons, ih]
theorem ER.get' {es : List (Value × Value × Nat)} {l : List MapEntry} (he : ER φ es l) : ∀ {i : Nat} {e' : MapEntry}, l[i]? = some e' → ∃ e, es[i]? = some e ∧ VR φ e.1 e'.key ∧ VR φ e.2.1 e'.val ∧ e'.born = e.2.2 := by
 induction he with
 | nil => intro i e h; simp at h
 | cons hk hv _ ih =>
  intro i e h
  cases i with
  | zero => simp at h; subst h; exact ⟨_, rfl, hk, hv, rfl⟩
  | succ i => simp at h; simpa using ih h
theorem R.iterPut (r : R w0 φ h w) {b : Nat} {i : Im} {m m' : Option Nat} {since st since2 st2 : Nat} {seen seen2 : List Nat} (hi : φ b = some i) (ho : h.m.get b = some (.iter m since seen st)) (hm : VR φ (.map m) (.map m')) :
  R w0 φ { h with m := h.m.set b (some (.iter m since2 seen2 st2)) } (putW w i.c (.mapIter m' since2 ⟨seen2⟩ st2)) ∧ Nx φ φ h { h with m := h.m.set b (some (.iter m since2 seen2 st2)) } :=
 ⟨r.put hi ho rfl (fun _ hw => ⟨(r.dom _ _ _ hi ho).1, m', hw, hm⟩), Nx.put hi trivial⟩
theorem sim_next (r : R w0 φ h w) {it it' : Value} {isS : Bool} {ty : TypeId} {l : List (Value × AH)} (hs : aNext it isS h = some l) (hit : VR φ it it') : ∃ v h', (v, h') ∈ l ∧ SimV w0 P φ h w (Instr.next it' isS ty) v h' := by
 unfold aNext at hs
 split at hs
 · rename_i b
   obtain ⟨i, hi, _, rfl⟩ := hit.ptr_inv
   have hi : φ b = some i := hi
   split at hs
   · rename_i s p ho
     obtain ⟨hd, hw⟩ := r.dom _ _ _ hi ho
     have hget : (getObj i.c).run P w = .ok (.stringIter s p) w := by simp [getObj, Sem.run, hw]
     rw [hd]
     split at hs
     · rename_i hp
       cases hs
       refine ⟨_, _, List.mem_singleton.2 rfl, ⟨.tuple #[.bool true, goInt p, .int .i32 (Utf8.decode s p).1], putW w i.c (.stringIter s (p + (Utf8.decode s p).2)), φ, ?_, Nx.put hi trivial, r.put hi ho rfl (fun w' hw' => ⟨hd, hw'⟩), .tuple' (.cons (.bool _) (.cons (.int _ _) (.cons (.int _ _) .nil)))⟩⟩
       have hset : (setObj i.c (.stringIter s (p + (Utf8.decode s p).2))).run P w = .ok () (putW w i.c (.stringIter s (p + (Utf8.decode s p).2))) := by simp [setObj, Sem.run, hw, putW]
       simp [Instr.next, hget, hp, hset]
     · rename_i hp
       cases hs
       refine ⟨_, _, List.mem_singleton.2 rfl, .here r (v' := .tuple #[.bool false]) ?_ (.tuple' (.cons (.bool _) .nil))⟩
       simp [Instr.next, hget, hp]
   · rename_i since seen st ho
     obtain ⟨hd, m', hw, hm⟩ := r.dom _ _ _ hi ho
     cases hm
     cases hs
     have hget : (getObj i.c).run P w = .ok (.mapIter none since ⟨seen⟩ st) w := by simp [getObj, Sem.run, hw]
     rw [hd]
     refine ⟨_, _, List.mem_singleton.2 rfl, .here r (v' := .tuple #[.bool false]) ?_ (.tuple' (.cons (.bool _) .nil))⟩
     simp [Instr.next, hget]
   · rename_i bm since seen st ho
     obtain ⟨hd, m', hw, hm⟩ := r.dom _ _ _ hi ho
     obtain ⟨im, him, e⟩ := hm.map_inv
     cases e
     have hget : (getObj i.c).run P w = .ok (.mapIter (some im.c) since ⟨seen⟩ st) w := by simp [getObj, Sem.run, hw]
     rw [hd]
     split at hs
     · rename_i es cl ro hom
       obtain ⟨arr, h1, _, h2⟩ := r.map (P := P) him hom
       split at hs
       · cases hs
       · rename_i hns
         cases hs
         have hns' : ¬ (!(⟨seen⟩ : Array Nat).isEmpty && !arr.isEmpty && arr.all (fun e => decide (e.born ≥ st))) = true := by
           intro hh
           apply hns
           have e1 : arr.all (fun e => decide (e.born ≥ st)) = es.all fun e => decide (e.2.2 ≥ st) := by
             rw [h2.all (fun b => decide (b ≥ st)), ← Array.all_toList]
           have e2 : arr.isEmpty = es.isEmpty := by
             have hl : es.length = arr.size := by rw [h2.length]; simp
             rw [Bool.eq_iff_iff, Array.isEmpty_iff_size_eq_zero, List.isEmpty_iff_length_eq_zero, hl]
           have e3 : (⟨seen⟩ : Array Nat).isEmpty = seen.isEmpty := by
             rw [Bool.eq_iff_iff, Array.isEmpty_iff_size_eq_zero, List.isEmpty_iff_length_eq_zero]; rfl
           rw [e1, e2, e3] at hh
           exact hh
         -- the lists of candidates
         let left := es.filter fun e => !seen.contains e.2.2
         let left' := arr.toList.filter fun e => !seen.contains e.born
         have hleft : ER φ left left' := h2.filter (fun b => !seen.contains b)
         let old := left.filter fun e => decide (e.2.2 < since)
         let old' := left'.filter fun e => decide (e.born < since)
         have hold : ER φ old old' := hleft.filter (fun b => decide (b < since))
         let new := left.filter fun e => !decide (e.2.2 < since)
         let new' := left'.filter fun e => !decide (e.born < since)
         have hnew : ER φ new new' := hleft.filter (fun b => !decide (b < since))
         let cand : List (Option MapEntry) := (if old'.isEmpty then [none] else []) ++ (old' ++ new').map some
         have hcand : ((if ((arr.filter fun e => !(⟨seen⟩ : Array Nat).contains e.born).filter (·.born < since)).isEmpty then #[none] else #[]) ++
             ((arr.filter fun e => !(⟨seen⟩ : Array Nat).contains e.born).filter (·.born < since) ++ (arr.filter fun e => !(⟨seen⟩ : Array Nat).contains e.born).filter (·.born ≥ since)).map some : Array (Option MapEntry)) = ⟨cand⟩ := by
           apply Array.ext'
           have fc : ∀ q, (⟨seen⟩ : Array Nat).contains q = seen.contains q := fun q => by simp
           have f1 : (arr.filter fun e => !(⟨seen⟩ : Array Nat).contains e.born).toList = left' := by rw [Array.toList_filter]; simp only [fc]; rfl
           have f2 : ((arr.filter fun e => !(⟨seen⟩ : Array Nat).contains e.born).filter (·.born < since)).toList = old' := by rw [Array.toList_filter, f1]
           have f3 : ((arr.filter fun e => !(⟨seen⟩ : Array Nat).contains e.born).filter (·.born ≥ since)).toList = new' := by
             rw [Array.toList_filter, f1]
             show left'.filter (fun e => decide (e.born ≥ since)) = left'.filter fun e => !decide (e.born < since)
             congr 1; funext e
             by_cases hq : e.born < since <;> simp [hq] <;> omega
           have f4 : ((arr.filter fun e => !(⟨seen⟩ : Array Nat).contains e.born).filter (·.born < since)).isEmpty = old'.isEmpty := by
             rw [Bool.eq_iff_iff, Array.isEmpty_iff_size_eq_zero, List.isEmpty_iff_length_eq_zero, ← f2, Array.length_toList]
           rw [Array.toList_append, Array.toList_map, Array.toList_append, f2, f3, f4]
           show _ = (if old'.isEmpty then [none] else []) ++ (old' ++ new').map some
           cases old'.isEmpty <;> rfl
         have hne : 0 < cand.length := by
           show 0 < ((if old'.isEmpty then [none] else []) ++ (old' ++ new').map some).length
           cases hq : old' with
           | nil => simp
           | cons x l => simp
         have hlen : cand.length = (nextOuts h b bm since seen cl es).length := by
           show ((if old'.isEmpty then [none] else []) ++ (old' ++ new').map some).length = ((if old.isEmpty then [(Value.tuple #[.bool false], h)] else []) ++ (old ++ new).map _).length
           have e1 : old'.isEmpty = old.isEmpty := by
             rw [Bool.eq_iff_iff, List.isEmpty_iff_length_eq_zero, List.isEmpty_iff_length_eq_zero, hold.length]
           rw [e1]
           simp only [List.length_append, List.length_map, hold.length, hnew.length]
           cases old.isEmpty <;> rfl
         -- which one is taken
         have hch : ∃ j w1, (choose (.mapNext cand.length)).run P w = .ok j w1 ∧ j < cand.length ∧ (w1 = w ∨ w1 = w.drew) := by
           rw [run_choose_drew]
           by_cases hf : (Question.mapNext cand.length).forced = true
           · rw [if_pos hf]; exact ⟨0, w, rfl, hne, .inl rfl⟩
           · rw [if_neg hf]; exact ⟨_, w.drew, rfl, Nat.mod_lt _ hne, .inr rfl⟩
         obtain ⟨j, w1, hj1, hj2, hw1⟩ := hch
         have r1 : R w0 φ h w1 := by rcases hw1 with rfl | rfl; exact r; exact r.drew
         have hgw : w1.heap[i.c]? = some (.mapIter (some im.c) since ⟨seen⟩ st) := by rcases hw1 with rfl | rfl <;> exact hw
         have hrun : ∀ (c : Option MapEntry), cand[j]? = some c → (Instr.next (.pointer (some ⟨i.c, 0 + 0, none⟩)) false ty).run P w = (match c with
             | some e => .ok (.tuple #[.bool true, e.key, e.val]) (putW w1 i.c (.mapIter (some im.c) since ⟨seen ++ [e.born]⟩ cl))
             | none => .ok (.tuple #[.bool false]) w1) := by
           intro c hc
           unfold Instr.next
           simp only [Sem.run_bind, hget, Result.andThen_ok, h1]
           rw [if_neg hns']
           simp only [Sem.run_bind]
           rw [hcand]
           simp only [List.size_toArray, hj1, Result.andThen_ok, List.getElem?_toArray, hc]
           cases c with
           | none => rfl
           | some e =>
             have hset : (setObj i.c (.mapIter (some im.c) since ((⟨seen⟩ : Array Nat).push e.born) cl)).run P w1 = .ok () (putW w1 i.c (.mapIter (some im.c) since ⟨seen ++ [e.born]⟩ cl)) := by
              have : ((⟨seen⟩ : Array Nat).push e.born) = ⟨seen ++ [e.born]⟩ := by apply Array.ext'; simp
              rw [this]
              simp [setObj, Sem.run, hgw, putW]
             simp only [Sem.run_bind, hset, Result.andThen_ok, Sem.run_pure]
         by_cases h0 : old'.isEmpty = true ∧ j = 0
         · obtain ⟨ho0, rfl⟩ := h0
           have hc0 : cand[0]? = some none := by
             show ((if old'.isEmpty then [none] else []) ++ (old' ++ new').map some)[0]? = some none
             rw [ho0]; rfl
           have e1 : old.isEmpty = true := by
             rw [List.isEmpty_iff_length_eq_zero, hold.length]; exact List.isEmpty_iff_length_eq_zero.1 ho0
           refine ⟨.tuple #[.bool false], h, ?_, ⟨.tuple #[.bool false], w1, φ, hrun none hc0, .refl φ h, r1, .tuple' (.cons (.bool _) .nil)⟩⟩
           show _ ∈ (if old.isEmpty then [(Value.tuple #[.bool false], h)] else []) ++ (old ++ new).map _
           rw [e1]; simp
         · have hcj : ∃ (q : Nat) (e' : MapEntry), cand[j]? = some (some e') ∧ (old' ++ new')[q]? = some e' := by
             have hcd : cand = (if old'.isEmpty then [none] else []) ++ (old' ++ new').map some := rfl
             cases hq : old'.isEmpty with
             | true =>
              rw [hq] at hcd
              have hj0 : j ≠ 0 := fun e => h0 ⟨hq, e⟩
              have hlt : j - 1 < (old' ++ new').length := by rw [hcd] at hj2; simp only [if_true, List.length_append, List.length_cons, List.length_nil, List.length_map] at hj2 ⊢; omega
              refine ⟨j - 1, (old' ++ new')[j - 1], ?_, List.getElem?_eq_getElem hlt⟩
              rw [hcd, if_pos rfl, List.getElem?_append_right (by simp; omega)]
              simp only [List.length_cons, List.length_nil, Nat.zero_add, List.getElem?_map, List.getElem?_eq_getElem hlt, Option.map_some]
             | false =>
              rw [hq] at hcd
              have hlt : j < (old' ++ new').length := by rw [hcd] at hj2; simpa using hj2
              refine ⟨j, (old' ++ new')[j], ?_, List.getElem?_eq_getElem hlt⟩
              rw [hcd]
              simp only [Bool.false_eq_true, if_false, List.nil_append, List.getElem?_map, List.getElem?_eq_getElem hlt, Option.map_some]
           obtain ⟨q, e', hc, hq⟩ := hcj
           obtain ⟨e, he, hk, hv, hb⟩ := (hold.append hnew).get' hq
           obtain ⟨p1, p2⟩ := r1.iterPut (since2 := since) (seen2 := seen ++ [e.2.2]) (st2 := cl) hi ho (.map im him)
           refine ⟨.tuple #[.bool true, e.1, e.2.1], { h with m := h.m.set b (some (.iter (some bm) since (seen ++ [e.2.2]) cl)) }, ?_, ⟨_, _, φ, hrun (some e') hc, p2, ?_, .tuple' (.cons (.bool _) (.cons hk (.cons hv .nil)))⟩⟩
           · show _ ∈ (if old.isEmpty then [(Value.tuple #[.bool false], h)] else []) ++ (old ++ new).map _
             exact List.mem_append_right _ (List.mem_map.2 ⟨e, List.mem_of_getElem? he, rfl⟩)
           · rw [hb]; exact p1
     · cases hs
   · cases hs
 · cases hs
end
end Go.X
namespace Go.X
noncomputable section
open Go Go.RowKit
variable {w0 w w' : World} {φ φ' : Phi} {h h' : AH} {P : Program}
def aPart (P : Program) (T : TypeId) (l : List Value) (off : Nat) : Option Value := match P.underlying T with
 | some d => if isAg d then (match szOf P T with
  | some k => some (.agg ⟨(l.take (off + k)).drop off⟩)
  | none => none) else l[off]?
 | none => none
theorem part_ok {T : TypeId} {l l' : List Value} {off : Nat} {v : Value} (hs : aPart P T l off = some v) (hl : LR φ l l') (w : World) : ∃ v', (part T ⟨l'⟩ off).run P w = .ok v' w ∧ VR φ v v' := by
 unfold aPart at hs
 split at hs
 · rename_i d hd
   unfold part
   simp only [Sem.run_bind, rA hd, Result.andThen_ok]
   split at hs
   · rename_i hag
     split at hs
     · rename_i k hk
       cases hs
       rw [hag]
       simp only [if_true, Sem.run_bind, rSz hk, Result.andThen_ok, Sem.run_pure]
       refine ⟨_, rfl, ?_⟩
       have e : (⟨l'⟩ : Array Value).extract off (off + k) = ⟨(l'.take (off + k)).drop off⟩ := by
        apply Array.ext'
        simp [List.drop_take]
       rw [e]
       exact .agg' ((hl.take _).drop _)
     · cases hs
   · rename_i hag
     simp only [Bool.not_eq_true] at hag
     rw [hag]
     obtain ⟨v', h1, h2⟩ := hl.get hs
     refine ⟨v', ?_, h2⟩
     simp [h1]
 · cases hs
theorem VR.agg_inv {l : List Value} {v : Value} (hv : VR φ (.agg ⟨l⟩) v) : ∃ l', v = .agg ⟨l'⟩ ∧ LR φ l l' := by
 cases hv with
 | agg ha h => exact ⟨_, rfl, LR.of ha h⟩
theorem VR.tuple_inv {l : List Value} {v : Value} (hv : VR φ (.tuple ⟨l⟩) v) : ∃ l', v = .tuple ⟨l'⟩ ∧ LR φ l l' := by
 cases hv with
 | tuple ha h => exact ⟨_, rfl, LR.of ha h⟩
def aFieldV (P : Program) (T : TypeId) (x : Value) (f : Nat) : Option Value := match P.underlying T, x with
 | some (.struct fs), .agg ⟨l⟩ => (match fs[f]? with
  | some fd => aPart P fd.type l fd.offset
  | none => none)
 | _, _ => none
theorem sim_fieldV (r : R w0 φ h w) {T : TypeId} {x x' v : Value} {f : Nat} (hs : aFieldV P T x f = some v) (hx : VR φ x x') : SimV w0 P φ h w (Instr.field T x' f) v h := by
 unfold aFieldV at hs
 split at hs
 · rename_i fs l hu
   split at hs
   · rename_i fd hf
     obtain ⟨l', rfl, hl⟩ := hx.agg_inv
     obtain ⟨v', h1, h2⟩ := part_ok hs hl w
     refine .here r ?_ h2
     simp only [Instr.field, Sem.run_bind, run_underlying hu, Result.andThen_ok, hf, asAgg, Sem.run_pure, h1]
   · cases hs
 · cases hs
def aIndexV (P : Program) (T : TypeId) (x i : Value) : Option Value := match P.underlying T, x, i with
 | some (.array n el), .agg ⟨l⟩, .int _ j => if 0 ≤ j ∧ j < n then (match szOf P el with
  | some k => aPart P el l (j.toNat * k)
  | none => none) else none
 | some .string, .string s, .int _ j => if 0 ≤ j then (match s.data.toList[j.toNat]? with
  | some b => some (.int .u8 b.toNat)
  | none => none) else none
 | _, _, _ => none
theorem sim_indexV (r : R w0 φ h w) {T : TypeId} {x x' i i' v : Value} (hs : aIndexV P T x i = some v) (hx : VR φ x x') (hi : VR φ i i') : SimV w0 P φ h w (Instr.index T x' i') v h := by
 unfold aIndexV at hs
 split at hs
 · rename_i n el l k j hu
   split at hs
   · rename_i hc
     split at hs
     · rename_i k hk
       obtain ⟨l', rfl, hl⟩ := hx.agg_inv
       obtain rfl := hi.int_inv
       obtain ⟨v', h1, h2⟩ := part_ok hs hl w
       refine .here r ?_ h2
       simp only [Instr.index, asIntOf, Sem.run_pure, Sem.run_bind, run_underlying hu, Result.andThen_ok]
       rw [if_pos hc]
       simp only [Sem.run_bind, rSz hk, Result.andThen_ok, h1]
     · cases hs
   · cases hs
 · rename_i s k j hu
   split at hs
   · rename_i hc
     split at hs
     · rename_i b hb
       cases hs
       cases hx
       obtain rfl := hi.int_inv
       refine .here r (v' := .int .u8 b.toNat) ?_ (.int _ _)
       have hb' : s[j.toNat]? = some b := by
        have hlt := (List.getElem?_eq_some_iff.1 hb).1
        have hlt2 : j.toNat < s.size := by rw [Array.length_toList] at hlt; exact hlt
        rw [getElem?_pos s j.toNat hlt2]
        rw [List.getElem?_eq_getElem hlt] at hb
        have : s[j.toNat] = s.data[j.toNat]'hlt2 := rfl
        rw [this]; simpa using hb
       simp only [Instr.index, asIntOf, Sem.run_pure, Sem.run_bind, run_underlying hu, Result.andThen_ok]
       rw [if_pos hc, hb']
       rfl
     · cases hs
   · cases hs
 · cases hs
def splice (l : List Value) (off : Nat) (v : List Value) : List Value := l.take off ++ v ++ l.drop (off + v.length)
theorem LR.splice {l l' v v' : List Value} (hl : LR φ l l') (hv : LR φ v v') (off : Nat) : LR φ (X.splice l off v) (X.splice l' off v') := by
 unfold X.splice
 rw [← hv.length]
 exact ((hl.take _).append hv).append (hl.drop _)
def aFill (place : Nat → Option (Nat × Nat)) (cells : List Value) : List (Nat × Value) → Option (List Value)
 | [] => some cells
 | (i, v) :: rest => match place i with
  | none => none
  | some (off, size) => if (cellsL v).length ≠ size ∨ off + (cellsL v).length > cells.length then none else aFill place (splice cells off (cellsL v)) rest
theorem foldl_splice : ∀ (vs : List Value) (cells : List Value) (off q : Nat), off + q + vs.length ≤ cells.length →
  (vs.zipIdx q).foldl (fun (cs : Array Value) (p : Value × Nat) => cs.setIfInBounds (off + p.2) p.1) ⟨cells⟩ = ⟨splice cells (off + q) vs⟩
 | [], cells, off, q, h => by simp [splice]
 | v :: vs, cells, off, q, h => by
  simp only [List.length_cons] at h
  simp only [List.zipIdx_cons, List.foldl_cons]
  have e : (⟨cells⟩ : Array Value).setIfInBounds (off + q) v = ⟨cells.set (off + q) v⟩ := by apply Array.ext'; simp
  rw [e, foldl_splice vs _ off (q + 1) (by simp; omega)]
  congr 1
  unfold splice
  apply List.ext_getElem?
  intro j
  simp only [List.length_cons]
  have hl : off + q < cells.length := by omega
  by_cases h1 : j < off + q
  · rw [List.getElem?_append_left (by simp; omega), List.getElem?_append_left (by simp; omega), List.getElem?_take, if_pos (by omega), List.getElem?_set_ne (by omega),
      List.getElem?_append_left (by simp; omega), List.getElem?_append_left (by simp; omega), List.getElem?_take, if_pos h1]
  · by_cases h2 : j = off + q
    · subst h2
      rw [List.getElem?_append_left (by simp; omega), List.getElem?_append_left (by simp; omega), List.getElem?_take, if_pos (by omega), List.getElem?_set_self (by omega)]
      rw [List.getElem?_append_left (by simp; omega), List.getElem?_append_right (by simp; omega)]
      simp [Nat.min_eq_left (Nat.le_of_lt hl)]
    · by_cases h3 : j < off + q + 1 + vs.length
      · rw [List.getElem?_append_left (by simp; omega), List.getElem?_append_right (by simp; omega), List.getElem?_append_left (by simp; omega), List.getElem?_append_right (by simp; omega)]
        simp only [List.length_take, List.length_set]
        rw [show min (off + (q + 1)) cells.length = off + q + 1 by omega, show min (off + q) cells.length = off + q by omega]
        rw [show j - (off + q) = (j - (off + q + 1)) + 1 by omega]
        simp
      · rw [List.getElem?_append_right (by simp; omega), List.getElem?_append_right (by simp; omega)]
        simp only [List.length_append, List.length_take, List.length_set, List.length_cons, List.getElem?_drop]
        rw [List.getElem?_set_ne (by omega)]
        congr 1
        omega
theorem fill_ok {place : Nat → Option (Nat × Nat)} : ∀ (parts parts' : List (Nat × Value)) {cells cells' out : List Value}, aFill place cells parts = some out → LR φ cells cells' →
  (parts.length = parts'.length ∧ ∀ (k : Nat) (p p' : Nat × Value), parts[k]? = some p → parts'[k]? = some p' → p.1 = p'.1 ∧ VR φ p.2 p'.2) →
  ∃ out', Instr.fill place ⟨cells'⟩ parts' = some ⟨out'⟩ ∧ LR φ out out'
 | [], parts', cells, cells', out, hs, hc, hp => by
  have : parts' = [] := List.eq_nil_of_length_eq_zero (by simpa using hp.1.symm)
  subst this
  simp only [aFill] at hs
  cases hs
  exact ⟨cells', rfl, hc⟩
 | (i, v) :: rest, [], cells, cells', out, hs, hc, hp => by simp at hp
 | (i, v) :: rest, (i', v') :: rest', cells, cells', out, hs, hc, hp => by
  have h0 := hp.2 0 (i, v) (i', v') rfl rfl
  obtain ⟨rfl, hv⟩ := h0
  simp only [aFill] at hs
  simp only [Instr.fill]
  cases hpl : place i with
  | none => rw [hpl] at hs; cases hs
  | some p =>
   obtain ⟨off, size⟩ := p
   rw [hpl] at hs
   dsimp only at hs ⊢
   split at hs
   · cases hs
   · rename_i hcond
     have hsz : v'.cells.size = (cellsL v).length := by rw [cells_eq, hv.cells.length]; rfl
     have hcl : (⟨cells'⟩ : Array Value).size = cells.length := by rw [hc.length]; rfl
     rw [if_neg (by rw [hsz, hcl]; simpa only [Bool.or_eq_true, decide_eq_true_eq] using hcond)]
     have hfold : v'.cells.zipIdx.foldl (fun cs (c, j) => cs.setIfInBounds (off + j) c) (⟨cells'⟩ : Array Value) = ⟨splice cells' off (cellsL v')⟩ := by
      have := foldl_splice (cellsL v') cells' off 0 (by
       have e1 := hv.cells.length
       have e2 := hc.length
       dsimp only at e1 hcond
       omega)
      rw [Nat.add_zero] at this
      rw [← this, cells_eq, ← Array.foldl_toList]
      simp
     rw [hfold]
     exact fill_ok rest rest' hs (hc.splice hv.cells off) ⟨by simpa using hp.1, fun k p p' h1 h2 => hp.2 (k + 1) p p' (by simpa using h1) (by simpa using h2)⟩
def aPlaces (P : Program) : List Field → Option (List (Nat × Nat))
 | [] => some []
 | f :: fs => match szOf P f.type, aPlaces P fs with
  | some k, some l => some ((f.offset, k) :: l)
  | _, _ => none
theorem places_ok : ∀ {fs : List Field} {l : List (Nat × Nat)}, aPlaces P fs = some l → ∀ (w : World), ((⟨fs⟩ : Array Field).mapM (m := Sem) fun f => do pure (f.offset, ← sizeOf f.type)).run P w = .ok ⟨l⟩ w := by
 intro fs
 have key : ∀ (fs : List Field) {l : List (Nat × Nat)}, aPlaces P fs = some l → ∀ (w : World), (fs.mapM (m := Sem) fun f => do pure (f.offset, ← sizeOf f.type)).run P w = .ok l w := by
  intro fs
  induction fs with
  | nil => intro l h w; simp only [aPlaces] at h; cases h; simp
  | cons f fs ih =>
   intro l h w
   simp only [aPlaces] at h
   split at h
   · rename_i k l' hk hl
     cases h
     rw [List.mapM_cons]
     simp only [Sem.run_bind, rSz hk, Result.andThen_ok, Sem.run_pure, ih hl]
   · cases h
 intro l h w
 have : (⟨fs⟩ : Array Field).mapM (m := Sem) (fun f => do pure (f.offset, ← sizeOf f.type)) = List.toArray <$> (fs.mapM (m := Sem) fun f => do pure (f.offset, ← sizeOf f.type)) := List.mapM_toArray
 rw [this]
 have e : (List.toArray <$> (fs.mapM (m := Sem) fun f => do pure (f.offset, ← sizeOf f.type)) : Sem (Array (Nat × Nat))) = (fs.mapM (m := Sem) fun f => do pure (f.offset, ← sizeOf f.type)) >>= fun l => pure l.toArray := rfl
 rw [e, Sem.run_bind, key fs h, Result.andThen_ok]
 rfl
def aParts (P : Program) (T : TypeId) : Option (Nat → Option (Nat × Nat)) := match P.underlying T with
 | some (.struct ⟨fs⟩) => (match aPlaces P fs with
  | some l => some (fun i => l[i]?)
  | none => none)
 | some (.array _ el) => (match szOf P el with
  | some k => some (fun i => some (i * k, k))
  | none => none)
 | _ => none
def aBuild (P : Program) (T : TypeId) (parts : List (Nat × Value)) : Option Value := match zeroOf P T, aParts P T with
 | some z, some pl => (match aFill pl (cellsL z) parts with
  | some l => some (.agg ⟨l⟩)
  | none => none)
 | _, _ => none
inductive PR (φ : Phi) : List (Nat × Value) → List (Nat × Value) → Prop
 | nil : PR φ [] []
 | cons {i : Nat} {v v' : Value} {l l' : List (Nat × Value)} (h : VR φ v v') (t : PR φ l l') : PR φ ((i, v) :: l) ((i, v') :: l')
theorem PR.two {l l' : List (Nat × Value)} (h : PR φ l l') : l.length = l'.length ∧ ∀ (k : Nat) (p p' : Nat × Value), l[k]? = some p → l'[k]? = some p' → p.1 = p'.1 ∧ VR φ p.2 p'.2 := by
 induction h with
 | nil => exact ⟨rfl, fun k p p' h1 => by simp at h1⟩
 | cons h t ih =>
  refine ⟨by simp [ih.1], fun k p p' h1 h2 => ?_⟩
  cases k with
  | zero => simp at h1 h2; subst h1; subst h2; exact ⟨rfl, h⟩
  | succ k => exact ih.2 k p p' (by simpa using h1) (by simpa using h2)
theorem sim_build (r : R w0 φ h w) {T : TypeId} {parts parts' : List (Nat × Value)} {v : Value} (hs : aBuild P T parts = some v) (hp : PR φ parts parts') : SimV w0 P φ h w (Instr.build T ⟨parts'⟩) v h := by
 unfold aBuild at hs
 split at hs
 · rename_i z pl hz hpl
   split at hs
   · rename_i l hl
     cases hs
     obtain ⟨hz1, hz2⟩ := rZero hz w
     obtain ⟨out', h1, h2⟩ := fill_ok parts parts' hl (pfv_refl φ hz2).cells hp.two
     refine .here r (v' := .agg ⟨out'⟩) ?_ (.agg' h2)
     unfold aParts at hpl
     unfold Instr.build
     simp only [Sem.run_bind, hz1, Result.andThen_ok, cells_eq]
     split at hpl
     · rename_i fs hu
       split at hpl
       · rename_i pls hpls
         cases hpl
         simp only [run_underlying hu, Result.andThen_ok, Sem.run_bind, places_ok hpls]
         have e : (fun i => (⟨pls⟩ : Array (Nat × Nat))[i]?) = fun (i : Nat) => pls[i]? := by funext i; simp
         rw [e, h1]
         rfl
       · cases hpl
     · rename_i n el hu
       split at hpl
       · rename_i k hk
         cases hpl
         simp only [run_underlying hu, Result.andThen_ok, Sem.run_bind, rSz hk, h1]
         rfl
       · cases hpl
     · cases hpl
   · cases hs
 · cases hs
def aMkI (P : Program) (T : TypeId) (x : Value) : Option Value := match P.underlying T with
 | some (.interface _) => none
 | some _ => some (.iface T x)
 | none => none
theorem sim_mkI (r : R w0 φ h w) {T : TypeId} {x x' v : Value} (hs : aMkI P T x = some v) (hx : VR φ x x') : SimV w0 P φ h w (Instr.makeInterface T x') v h := by
 unfold aMkI at hs
 split at hs
 · cases hs
 · rename_i d hd hu
   cases hs
   refine .here r (v' := .iface T x') ?_ (.iface hx)
   unfold Instr.makeInterface
   simp only [Sem.run_bind, run_underlying hu, Result.andThen_ok]
   cases d <;> first | rfl | exact (hd _ rfl).elim
 · cases hs
def aExtract (x : Value) (i : Nat) : Option Value := match x with
 | .tuple ⟨l⟩ => l[i]?
 | _ => none
theorem sim_extract (r : R w0 φ h w) {x x' v : Value} {i : Nat} (hs : aExtract x i = some v) (hx : VR φ x x') : SimV w0 P φ h w (Instr.extract x' i) v h := by
 unfold aExtract at hs
 split at hs
 · rename_i l
   obtain ⟨l', rfl, hl⟩ := hx.tuple_inv
   obtain ⟨v', h1, h2⟩ := hl.get hs
   exact .here r (by simp [Instr.extract, h1]) h2
 · cases hs
def aAssert (P : Program) (x : Value) (T : TypeId) (c : Bool) : Option Value := match P.underlying T with
 | some (.interface want) => (match x with
  | .nilIface => if c then (match zeroOf P T with | some z => some (.tuple #[z, .bool false]) | none => none) else none
  | .iface t _ => (match P.info? t with
   | some i => (match Instr.missingMethod want i.methods with
    | none => some (tupOk c x true)
    | some _ => if c then (match zeroOf P T with | some z => some (.tuple #[z, .bool false]) | none => none) else none)
   | none => none)
  | _ => none)
 | some _ => (match x with
  | .nilIface => if c then (match zeroOf P T with | some z => some (.tuple #[z, .bool false]) | none => none) else none
  | .iface t v => if t = T then some (tupOk c v true) else if c then (match zeroOf P T with | some z => some (.tuple #[z, .bool false]) | none => none) else none
  | _ => none)
 | none => none
theorem sim_assert (r : R w0 φ h w) {xT T : TypeId} {x x' v : Value} {c : Bool} (hs : aAssert P x T c = some v) (hx : VR φ x x') : SimV w0 P φ h w (Instr.typeAssert x' xT T c) v h := by
 have fails : ∀ {v : Value}, (if c then (match zeroOf P T with | some z => some (.tuple #[z, .bool false]) | none => none) else none) = some v → ∃ z, c = true ∧ v = .tuple #[z, .bool false] ∧ (zeroValue T).run P w = .ok z w ∧ VR φ z z := by
   intro v hv
   split at hv
   · rename_i hc
     split at hv
     · rename_i z hz
       cases hv
       obtain ⟨hz1, hz2⟩ := rZero hz w
       exact ⟨z, hc, rfl, hz1, pfv_refl φ hz2⟩
     · cases hv
   · cases hv
 unfold aAssert at hs
 split at hs
 · rename_i want hu
   split at hs
   · cases hx
     obtain ⟨z, hc, rfl, h1, h2⟩ := fails hs
     subst hc
     refine .here r (v' := .tuple #[z, .bool false]) ?_ (.tuple' (.cons h2 (.cons (.bool _) .nil)))
     simp [Instr.typeAssert, run_underlying hu, h1]
   · rename_i t v0
     split at hs
     · rename_i i hi
       have hx' : ∃ v', x' = .iface t v' := by cases hx; exact ⟨_, rfl⟩
       obtain ⟨v', rfl⟩ := hx'
       split at hs
       · rename_i hm
         cases hs
         refine .here r (v' := tupOk c (.iface t v') true) ?_ (tupOk_rel hx)
         simp [Instr.typeAssert, run_underlying hu, rI hi, hm, tupOk]
       · rename_i m hm
         obtain ⟨z, hc, rfl, h1, h2⟩ := fails hs
         subst hc
         refine .here r (v' := .tuple #[z, .bool false]) ?_ (.tuple' (.cons h2 (.cons (.bool _) .nil)))
         simp [Instr.typeAssert, run_underlying hu, rI hi, hm, h1]
     · cases hs
   · cases hs
 · rename_i d hd hu
   split at hs
   · cases hx
     obtain ⟨z, hc, rfl, h1, h2⟩ := fails hs
     subst hc
     refine .here r (v' := .tuple #[z, .bool false]) ?_ (.tuple' (.cons h2 (.cons (.bool _) .nil)))
     cases d <;> first | exact (hd _ rfl).elim | simp [Instr.typeAssert, run_underlying hu, h1]
   · rename_i t v0
     have hx' : ∃ v', x' = .iface t v' ∧ VR φ v0 v' := by cases hx with | iface h => exact ⟨_, rfl, h⟩
     obtain ⟨v', rfl, hv⟩ := hx'
     split at hs
     · rename_i ht
       cases hs
       subst ht
       refine .here r (v' := tupOk c v' true) ?_ (tupOk_rel hv)
       cases d <;> first | exact (hd _ rfl).elim | simp [Instr.typeAssert, run_underlying hu, tupOk]
     · rename_i ht
       obtain ⟨z, hc, rfl, h1, h2⟩ := fails hs
       subst hc
       refine .here r (v' := .tuple #[z, .bool false]) ?_ (.tuple' (.cons h2 (.cons (.bool _) .nil)))
       cases d <;> first | exact (hd _ rfl).elim | simp [Instr.typeAssert, run_underlying hu, h1, ht]
   · cases hs
 · cases hs
end
end Go.X
