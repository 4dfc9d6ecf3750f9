/- Parts of the closed evaluator. -/
import Derived.WalkKit
namespace Go.X
noncomputable section
open Go Go.RowKit
inductive T (α : Type) where
 | e : T α
 | n (l : T α) (v : Option α) (r : T α) : T α
namespace T
variable {α : Type}
def get (t : T α) : Nat → Option α := T.rec (motive := fun _ => Nat → Option α) (fun _ => none)
 (fun _ v _ gl gr k => Bool.rec (Bool.rec (gl (Nat.sub (Nat.div k (nat_lit 2)) (nat_lit 1))) (gr (Nat.div k (nat_lit 2))) (Nat.beq (Nat.mod k (nat_lit 2)) (nat_lit 1))) v (Nat.beq k (nat_lit 0))) t
def put (d : Nat) : T α → Nat → Option α → T α := Nat.rec (motive := fun _ => T α → Nat → Option α → T α)
 (fun t _ x => T.rec (motive := fun _ => T α) (.n .e x .e) (fun l _ r _ _ => .n l x r) t)
 (fun _ p t k x => T.rec (motive := fun _ => T α)
  (Bool.rec (Bool.rec (.n (p .e (Nat.sub (Nat.div k (nat_lit 2)) (nat_lit 1)) x) none .e) (.n .e none (p .e (Nat.div k (nat_lit 2)) x)) (Nat.beq (Nat.mod k (nat_lit 2)) (nat_lit 1))) (.n .e x .e) (Nat.beq k (nat_lit 0)))
  (fun l v r _ _ => Bool.rec (Bool.rec (.n (p l (Nat.sub (Nat.div k (nat_lit 2)) (nat_lit 1)) x) v r) (.n l v (p r (Nat.div k (nat_lit 2)) x)) (Nat.beq (Nat.mod k (nat_lit 2)) (nat_lit 1))) (.n l x r) (Nat.beq k (nat_lit 0))) t) d
theorem beq_ite {β : Type} (a b : Nat) (x y : β) : (Bool.rec (motive := fun _ => β) y x (Nat.beq a b) : β) = if a = b then x else y := by
 by_cases h : a = b
 · subst h; rw [if_pos rfl, Nat.beq_refl]
 · rw [if_neg h]
   cases hq : Nat.beq a b with
   | true => exact (h (Nat.eq_of_beq_eq_true hq)).elim
   | false => rfl
theorem get_e (k : Nat) : (T.e : T α).get k = none := rfl
theorem get_n (l r : T α) (v : Option α) (k : Nat) : (T.n l v r).get k = if k = 0 then v else if k % 2 = 1 then get r (k / 2) else get l (k / 2 - 1) := by
 show Bool.rec (motive := fun _ => Option α) (Bool.rec (motive := fun _ => Option α) (get l (k / 2 - 1)) (get r (k / 2)) (Nat.beq (k % 2) 1)) v (Nat.beq k 0) = _
 rw [beq_ite, beq_ite]
def kids : T α → T α × Option α × T α
 | .e => (.e, none, .e)
 | .n l v r => (l, v, r)
theorem get_kids (t : T α) (k : Nat) : t.get k = if k = 0 then t.kids.2.1 else if k % 2 = 1 then t.kids.2.2.get (k / 2) else t.kids.1.get (k / 2 - 1) := by
 cases t with
 | e => simp [get_e, kids]
 | n l v r => rw [get_n]; rfl
theorem put_kids (d : Nat) (t : T α) (k : Nat) (x : Option α) : put (d + 1) t k x = if k = 0 then .n t.kids.1 x t.kids.2.2 else if k % 2 = 1 then .n t.kids.1 t.kids.2.1 (put d t.kids.2.2 (k / 2) x) else .n (put d t.kids.1 (k / 2 - 1) x) t.kids.2.1 t.kids.2.2 := by
 cases t with
 | e =>
  show Bool.rec (motive := fun _ => T α) (Bool.rec (motive := fun _ => T α) (.n (put d .e (k / 2 - 1) x) none .e) (.n .e none (put d .e (k / 2) x)) (Nat.beq (k % 2) 1)) (.n .e x .e) (Nat.beq k 0) = _
  rw [beq_ite, beq_ite]; rfl
 | n l v r =>
  show Bool.rec (motive := fun _ => T α) (Bool.rec (motive := fun _ => T α) (.n (put d l (k / 2 - 1) x) v r) (.n l v (put d r (k / 2) x)) (Nat.beq (k % 2) 1)) (.n l x r) (Nat.beq k 0) = _
  rw [beq_ite, beq_ite]; rfl
theorem put_zero (t : T α) (x : Option α) (j : Nat) : (put 0 t 0 x).get j = if j = 0 then x else t.get j := by
 rw [get_kids t j]
 cases t with
 | e =>
  show (T.n .e x .e).get j = _
  simp only [get_n, kids, get_e]; by_cases hj : j = 0 <;> simp [hj]
 | n l v r =>
  show (T.n l x r).get j = _
  simp only [get_n, kids]; by_cases hj : j = 0 <;> simp [hj]
theorem get_put_at : ∀ (d : Nat) (t : T α) (k : Nat) (x : Option α) (j : Nat), k < 2 ^ d → (put d t k x).get j = if j = k then x else t.get j
 | 0, t, k, x, j, h => by
  have : k = 0 := by simpa using h
  subst this
  exact (put_zero t x j)
 | d + 1, t, k, x, j, h => by
  have ih := fun t k' j' h' => get_put_at d t k' x j' h'
  rw [Nat.pow_succ] at h
  rw [put_kids, get_kids t j]
  by_cases hk : k = 0
  · subst hk
    rw [if_pos rfl, get_n]
    by_cases hj : j = 0 <;> simp [hj]
  · rw [if_neg hk]
    by_cases ho : k % 2 = 1
    · rw [if_pos ho, get_n, ih _ _ _ (by omega)]
      by_cases hj : j = 0
      · subst hj; rw [if_pos rfl, if_pos rfl, if_neg (by omega)]
      · rw [if_neg hj, if_neg hj]
        by_cases hjo : j % 2 = 1
        · rw [if_pos hjo, if_pos hjo]
          by_cases e : j = k
          · subst e; simp
          · rw [if_neg e, if_neg (by omega)]
        · rw [if_neg hjo, if_neg hjo, if_neg (by intro e; subst e; exact hjo ho)]
    · rw [if_neg ho, get_n, ih _ _ _ (by omega)]
      by_cases hj : j = 0
      · subst hj; rw [if_pos rfl, if_pos rfl, if_neg (by omega)]
      · rw [if_neg hj, if_neg hj]
        by_cases hjo : j % 2 = 1
        · rw [if_pos hjo, if_pos hjo, if_neg (by intro e; subst e; exact ho hjo)]
        · rw [if_neg hjo, if_neg hjo]
          by_cases e : j = k
          · subst e; simp
          · rw [if_neg e, if_neg (by omega)]
def Ok (_ : Nat) : Prop := True
def set (t : T α) (k : Nat) (x : Option α) : T α := put (Nat.succ (Nat.log2 k)) t k x
theorem get_set {t : T α} {k : Nat} {x : Option α} (j : Nat) : (t.set k x).get j = if j = k then x else t.get j := get_put_at (Nat.log2 k + 1) t k x j Nat.lt_log2_self
def fill : List α → Nat → T α → T α
 | [], _, t => t
 | x :: l, k, t => fill l (k + 1) (t.set k (some x))
theorem get_fill : ∀ {l : List α} {k : Nat} {t : T α} (j : Nat), (fill l k t).get j = if k ≤ j ∧ j < k + l.length then l[j - k]? else t.get j
 | [], k, t, j => by simp only [fill, List.length_nil]; rw [if_neg (by omega)]
 | x :: l, k, t, j => by
  rw [fill, get_fill, get_set]
  simp only [List.length_cons]
  by_cases hj : j = k
  · subst hj
    rw [if_neg (by omega), if_pos rfl, if_pos (by omega)]; simp
  · rw [if_neg hj]
    by_cases h2 : k + 1 ≤ j ∧ j < k + 1 + l.length
    · rw [if_pos h2, if_pos (by omega), show j - k = (j - (k + 1)) + 1 by omega]; simp
    · rw [if_neg h2, if_neg (by omega)]
end T
structure Im where
 c : Nat
 d : Nat
 n : Nat
 sz : Nat
 e : Nat
abbrev Phi := Nat → Option Im
def open_ : Nat := 1329227995784915872903807060280344576
inductive FnR (φ : Phi) : Fn → Fn → Prop
 | same {f : Fn} (h : ∀ l, f ≠ .yield l) : FnR φ f f
 | yield {l : Nat} (i : Im) (h : φ l = some i) : FnR φ (.yield l) (.yield i.c)
def notBool : Value → Bool
 | .bool _ => false
 | _ => true
inductive VR (φ : Phi) : Value → Value → Prop
 | bool (b : Bool) : VR φ (.bool b) (.bool b)
 | int (k : IntKind) (n : Int) : VR φ (.int k n) (.int k n)
 | float (k : FloatKind) (n : Nat) : VR φ (.float k n) (.float k n)
 | string (s : ByteArray) : VR φ (.string s) (.string s)
 | nilp : VR φ (.pointer none) (.pointer none)
 | ptr {a : Addr} (i : Im) (hi : φ a.block = some i) (hs : a.spot = none) : VR φ (.pointer (some a)) (.pointer (some ⟨i.c, a.off + i.d, none⟩))
 | nils (l c : Nat) : VR φ (.slice none l c) (.slice none l c)
 | slice0 (a a' : Addr) (l : Nat) : VR φ (.slice (some a) l 0) (.slice (some a') l 0)
 | slice {a : Addr} {l c : Nat} (i : Im) (hi : φ a.block = some i) (hs : a.spot = none) (hc : c ≠ open_) : VR φ (.slice (some a) l c) (.slice (some ⟨i.c, a.off + i.d, none⟩) l c)
 | opens {a a' : Addr} {l c' : Nat} (i : Im) (hi : φ a.block = some i) (hs : a.spot = none) (ho : 0 < i.e) (hl : l ≤ c') (hn : i.n ≤ a.off + c' * i.e)
  (hz : a.off + i.d + c' * i.e ≤ i.sz) (ha : 0 < c' → a' = ⟨i.c, a.off + i.d, none⟩) : VR φ (.slice (some a) l open_) (.slice (some a') l c')
 | nilm : VR φ (.map none) (.map none)
 | opq (k : Nat) (a : Option Addr) (l c : Nat) : VR φ (.chan (some k)) (.slice a l c)
 | top (v : Value) (h : v.oneCell' = true) (hb : notBool v = true) : VR φ (.chan none) v
 | map {r : Nat} (i : Im) (hi : φ r = some i) : VR φ (.map (some r)) (.map (some i.c))
 | func {f f' : Fn} {a b a' b' : List Value} (hf : FnR φ f f') (ha : a.length = a'.length) (hb : b.length = b'.length) (h1 : ∀ (i : Nat) v v', a[i]? = some v → a'[i]? = some v' → VR φ v v')
  (h2 : ∀ (i : Nat) v v', b[i]? = some v → b'[i]? = some v' → VR φ v v') : VR φ (.func f ⟨a⟩ ⟨b⟩) (.func f' ⟨a'⟩ ⟨b'⟩)
 | nilf : VR φ .nilFunc .nilFunc
 | iface {t : TypeId} {v v' : Value} (h : VR φ v v') : VR φ (.iface t v) (.iface t v')
 | nili : VR φ .nilIface .nilIface
 | agg {a a' : List Value} (ha : a.length = a'.length) (h : ∀ (i : Nat) v v', a[i]? = some v → a'[i]? = some v' → VR φ v v') : VR φ (.agg ⟨a⟩) (.agg ⟨a'⟩)
 | tuple {a a' : List Value} (ha : a.length = a'.length) (h : ∀ (i : Nat) v v', a[i]? = some v → a'[i]? = some v' → VR φ v v') : VR φ (.tuple ⟨a⟩) (.tuple ⟨a'⟩)
def Le (φ φ' : Phi) : Prop := ∀ b i, φ b = some i → φ' b = some i
theorem Le.refl (φ : Phi) : Le φ φ := fun _ _ h => h
theorem Le.trans {φ φ' φ'' : Phi} (h : Le φ φ') (h' : Le φ' φ'') : Le φ φ'' := fun b i hi => h' b i (h b i hi)
theorem FnR.mono {φ φ' : Phi} (l : Le φ φ') {f f' : Fn} (h : FnR φ f f') : FnR φ' f f' := by
 cases h with
 | same h => exact .same h
 | yield i h => exact .yield i (l _ _ h)
theorem VR.mono {φ φ' : Phi} (l : Le φ φ') {v v' : Value} (h : VR φ v v') : VR φ' v v' := by
 induction h with
 | bool b => exact .bool b
 | int k n => exact .int k n
 | float k n => exact .float k n
 | string s => exact .string s
 | nilp => exact .nilp
 | ptr i hi hs => exact .ptr i (l _ _ hi) hs
 | nils l c => exact .nils l c
 | slice0 a a' l => exact .slice0 a a' l
 | slice i hi hs hc => exact .slice i (l _ _ hi) hs hc
 | opens i hi hs ho hl hn hz ha => exact .opens i (l _ _ hi) hs ho hl hn hz ha
 | nilm => exact .nilm
 | top v h hb => exact .top v h hb
 | opq k a l c => exact .opq k a l c
 | map i hi => exact .map i (l _ _ hi)
 | func hf ha hb _ _ ih1 ih2 => exact .func (hf.mono l) ha hb ih1 ih2
 | nilf => exact .nilf
 | iface _ ih => exact .iface ih
 | nili => exact .nili
 | agg ha _ ih => exact .agg ha ih
 | tuple ha _ ih => exact .tuple ha ih
inductive LR (φ : Phi) : List Value → List Value → Prop
 | nil : LR φ [] []
 | cons {v v' : Value} {l l' : List Value} (h : VR φ v v') (t : LR φ l l') : LR φ (v :: l) (v' :: l')
theorem LR.mono {φ φ' : Phi} (le : Le φ φ') {l l' : List Value} (h : LR φ l l') : LR φ' l l' := by
 induction h with
 | nil => exact .nil
 | cons h _ ih => exact .cons (h.mono le) ih
theorem LR.length {φ : Phi} {l l' : List Value} (h : LR φ l l') : l.length = l'.length := by
 induction h with
 | nil => rfl
 | cons _ _ ih => simp [ih]
theorem LR.get {φ : Phi} {l l' : List Value} (h : LR φ l l') : ∀ {k : Nat} {v : Value}, l[k]? = some v → ∃ v', l'[k]? = some v' ∧ VR φ v v' := by
 induction h with
 | nil => intro k v h; simp at h
 | cons h _ ih =>
  intro k v hk
  cases k with
  | zero => simp at hk; subst hk; exact ⟨_, rfl, h⟩
  | succ k => simp at hk; simpa using ih hk
theorem LR.of {φ : Phi} : ∀ {l l' : List Value}, l.length = l'.length → (∀ (i : Nat) v v', l[i]? = some v → l'[i]? = some v' → VR φ v v') → LR φ l l'
 | [], [], _, _ => .nil
 | [], _ :: _, h, _ => by simp at h
 | _ :: _, [], h, _ => by simp at h
 | v :: l, v' :: l', h, hv => .cons (hv 0 v v' rfl rfl) (LR.of (by simpa using h) (fun i v v' h1 h2 => hv (i + 1) v v' (by simpa using h1) (by simpa using h2)))
theorem LR.at {φ : Phi} {l l' : List Value} (h : LR φ l l') : ∀ (i : Nat) v v', l[i]? = some v → l'[i]? = some v' → VR φ v v' := by
 intro i v v' h1 h2
 obtain ⟨u, h3, h4⟩ := h.get h1
 rw [h2] at h3; cases h3; exact h4
theorem LR.append {φ : Phi} {l l' m m' : List Value} (h : LR φ l l') (k : LR φ m m') : LR φ (l ++ m) (l' ++ m') := by
 induction h with
 | nil => exact k
 | cons h _ ih => exact .cons h ih
theorem LR.take {φ : Phi} {l l' : List Value} (h : LR φ l l') : ∀ n, LR φ (l.take n) (l'.take n) := by
 induction h with
 | nil => intro n; simp; exact .nil
 | cons h _ ih => intro n; cases n with | zero => simp; exact .nil | succ n => simpa using .cons h (ih n)
theorem LR.drop {φ : Phi} {l l' : List Value} (h : LR φ l l') : ∀ n, LR φ (l.drop n) (l'.drop n) := by
 induction h with
 | nil => intro n; simp; exact .nil
 | cons h t ih => intro n; cases n with | zero => simpa using .cons h t | succ n => simpa using ih n
theorem VR.agg' {φ : Phi} {l l' : List Value} (h : LR φ l l') : VR φ (.agg ⟨l⟩) (.agg ⟨l'⟩) := .agg h.length h.at
theorem VR.tuple' {φ : Phi} {l l' : List Value} (h : LR φ l l') : VR φ (.tuple ⟨l⟩) (.tuple ⟨l'⟩) := .tuple h.length h.at
theorem VR.func' {φ : Phi} {f f' : Fn} {a b a' b' : List Value} (hf : FnR φ f f') (h1 : LR φ a a') (h2 : LR φ b b') : VR φ (.func f ⟨a⟩ ⟨b⟩) (.func f' ⟨a'⟩ ⟨b'⟩) := .func hf h1.length h2.length h1.at h2.at
def cellsL : Value → List Value
 | .agg ⟨l⟩ => l
 | v => [v]
theorem cellsL_eq (v : Value) : v.cells.toList = cellsL v := by cases v <;> rfl
theorem cells_eq (v : Value) : v.cells = ⟨cellsL v⟩ := by cases v <;> rfl
theorem VR.cells {φ : Phi} {v v' : Value} (h : VR φ v v') : LR φ (cellsL v) (cellsL v') := by
 cases h with
 | agg ha h => exact LR.of ha h
 | bool b => exact .cons (.bool b) .nil
 | int k n => exact .cons (.int k n) .nil
 | float k n => exact .cons (.float k n) .nil
 | string s => exact .cons (.string s) .nil
 | nilp => exact .cons .nilp .nil
 | ptr i hi hs => exact .cons (.ptr i hi hs) .nil
 | nils l c => exact .cons (.nils l c) .nil
 | slice0 a a' l => exact .cons (.slice0 a a' l) .nil
 | slice i hi hs hc => exact .cons (.slice i hi hs hc) .nil
 | opens i hi hs ho hl hn hz ha => exact .cons (.opens i hi hs ho hl hn hz ha) .nil
 | nilm => exact .cons .nilm .nil
 | opq k a l c => exact .cons (.opq k a l c) .nil
 | top v h hb =>
  have e : cellsL v' = [v'] := by cases v' <;> first | rfl | (cases h)
  rw [e]
  exact .cons (.top v' h hb) .nil
 | map i hi => exact .cons (.map i hi) .nil
 | func hf ha hb h1 h2 => exact .cons (.func hf ha hb h1 h2) .nil
 | nilf => exact .cons .nilf .nil
 | iface h => exact .cons (.iface h) .nil
 | nili => exact .cons .nili .nil
 | tuple ha h => exact .cons (.tuple ha h) .nil
theorem VR.one {φ : Phi} {v v' : Value} (h : VR φ v v') : v'.oneCell' = v.oneCell' := by cases h <;> first | rfl | assumption
theorem VR.nb {φ : Phi} {v v' : Value} (h : VR φ v v') : notBool v' = notBool v := by cases h <;> first | rfl | assumption
def pf : Nat → Value → Bool
 | _, .bool _ | _, .int _ _ | _, .float _ _ | _, .string _ | _, .pointer none | _, .slice none _ _ | _, .map none | _, .nilFunc | _, .nilIface => true
 | n + 1, .iface _ v => pf n v
 | n + 1, .agg ⟨l⟩ => l.all (pf n)
 | n + 1, .tuple ⟨l⟩ => l.all (pf n)
 | _, .func (.func _) ⟨[]⟩ ⟨[]⟩ => true
 | _, _ => false
theorem pf_same : ∀ (n : Nat) {v v' : Value} {φ : Phi}, pf n v = true → VR φ v v' → v' = v := by
 intro n
 induction n with
 | zero =>
  intro v v' φ hp h
  cases h <;> first | rfl | (simp [pf] at hp; done) | skip
  rename_i f f' a b a' b' hf ha hb h1 h2
  cases hf with
  | same hf =>
    cases a with
    | cons x l => cases f <;> simp [pf] at hp
    | nil => cases b with
     | cons x l => cases f <;> simp [pf] at hp
     | nil => cases a' with
      | cons x l => simp at ha
      | nil => cases b' with
       | cons x l => simp at hb
       | nil => rfl
  | yield i hi => cases a <;> cases b <;> simp [pf] at hp
 | succ n ih =>
  have all : ∀ {φ : Phi} {l l' : List Value}, LR φ l l' → l.all (pf n) = true → l' = l := by
    intro φ l l' h
    induction h with
    | nil => intro _; rfl
    | cons h _ ih' =>
     intro hp
     simp only [List.all_cons, Bool.and_eq_true] at hp
     rw [ih hp.1 h, ih' hp.2]
  intro v v' φ hp h
  cases h <;> first | rfl | (simp [pf] at hp; done) | skip
  · rename_i f f' a b a' b' hf ha hb h1 h2
    cases hf with
    | same hf =>
     cases a with
     | cons x l => cases f <;> simp [pf] at hp
     | nil => cases b with
      | cons x l => cases f <;> simp [pf] at hp
      | nil => cases a' with
       | cons x l => simp at ha
       | nil => cases b' with
        | cons x l => simp at hb
        | nil => rfl
    | yield i hi => cases a <;> cases b <;> simp [pf] at hp
  · rename_i t v v' h
    rw [ih (by simpa [pf] using hp) h]
  · rename_i a a' ha h
    rw [all (LR.of ha h) (by simpa [pf] using hp)]
  · rename_i a a' ha h
    rw [all (LR.of ha h) (by simpa [pf] using hp)]
theorem pf_refl (φ : Phi) : ∀ (n : Nat) {v : Value}, pf n v = true → VR φ v v := by
 intro n
 induction n with
 | zero =>
  intro v hp
  cases v with
  | bool b => exact .bool b
  | int k n => exact .int k n
  | float k n => exact .float k n
  | string s => exact .string s
  | pointer a => cases a with | none => exact .nilp | some a => simp [pf] at hp
  | slice a l c => cases a with | none => exact .nils l c | some a => simp [pf] at hp
  | map r => cases r with | none => exact .nilm | some r => simp [pf] at hp
  | nilFunc => exact .nilf
  | nilIface => exact .nili
  | func f a b =>
   obtain ⟨a⟩ := a
   obtain ⟨b⟩ := b
   cases f <;> cases a <;> cases b <;> simp [pf] at hp
   exact .func' (.same (fun l e => by cases e)) .nil .nil
  | _ => simp [pf] at hp
 | succ n ih =>
  have all : ∀ {l : List Value}, l.all (pf n) = true → LR φ l l := by
   intro l
   induction l with
   | nil => intro _; exact .nil
   | cons x l ih' =>
    intro hp
    simp only [List.all_cons, Bool.and_eq_true] at hp
    exact .cons (ih hp.1) (ih' hp.2)
  intro v hp
  cases v with
  | bool b => exact .bool b
  | int k n => exact .int k n
  | float k n => exact .float k n
  | string s => exact .string s
  | pointer a => cases a with | none => exact .nilp | some a => simp [pf] at hp
  | slice a l c => cases a with | none => exact .nils l c | some a => simp [pf] at hp
  | map r => cases r with | none => exact .nilm | some r => simp [pf] at hp
  | nilFunc => exact .nilf
  | nilIface => exact .nili
  | func f a b =>
   obtain ⟨a⟩ := a
   obtain ⟨b⟩ := b
   cases f <;> cases a <;> cases b <;> simp [pf] at hp
   exact .func' (.same (fun l e => by cases e)) .nil .nil
  | iface t v => exact .iface (ih (by simpa [pf] using hp))
  | agg a => obtain ⟨a⟩ := a; exact .agg' (all (by simpa [pf] using hp))
  | tuple a => obtain ⟨a⟩ := a; exact .tuple' (all (by simpa [pf] using hp))
  | _ => simp [pf] at hp
def pfv (v : Value) : Bool := pf 9 v
theorem pfv_same {v v' : Value} {φ : Phi} (h : pfv v = true) (k : VR φ v v') : v' = v := pf_same 9 h k
theorem pfv_refl {v : Value} (φ : Phi) (h : pfv v = true) : VR φ v v := pf_refl φ 9 h
end
end Go.X
namespace Go.X
noncomputable section
open Go Go.RowKit
inductive AObj where
 | cells (c : T Value) (n op : Nat) (ro : Bool)
 | map (es : List (Value × Value × Nat)) (clock : Nat) (ro : Bool)
 | iter (m : Option Nat) (since : Nat) (seen : List Nat) (st : Nat)
 | sit (s : ByteArray) (p : Nat)
 | loop (st : LoopState) (pend : Option Code) (ts : T Value) (sz : Nat) (ps : List Tmp) (asg body : Code)
 | dfr
 | bag (es : List (ByteArray × Value))
 | tcells (ty : TypeId) (c : T Value) (n op : Nat)
def AObj.ro : AObj → Bool
 | .cells _ _ _ r => r
 | .map _ _ r => r
 | _ => false
structure AH where
 m : T AObj
 next : Nat
inductive ER (φ : Phi) : List (Value × Value × Nat) → List MapEntry → Prop
 | nil : ER φ [] []
 | cons {k v k' v' : Value} {b : Nat} {l : List (Value × Value × Nat)} {l' : List MapEntry} (hk : VR φ k k') (hv : VR φ v v') (t : ER φ l l') : ER φ ((k, v, b) :: l) (⟨k', v', b⟩ :: l')
theorem ER.mono {φ φ' : Phi} (le : Le φ φ') {l : List (Value × Value × Nat)} {l' : List MapEntry} (h : ER φ l l') : ER φ' l l' := by
 induction h with
 | nil => exact .nil
 | cons hk hv _ ih => exact .cons (hk.mono le) (hv.mono le) ih
theorem ER.length {φ : Phi} {l : List (Value × Value × Nat)} {l' : List MapEntry} (h : ER φ l l') : l.length = l'.length := by
 induction h with
 | nil => rfl
 | cons _ _ _ ih => simp [ih]
structure FR (φ : Phi) (n : Nat) (t : T Value) (a : Array Value) : Prop where
 size : a.size = n
 lt : T.Ok (n)
 get : ∀ k v, a[k]? = some v → VR φ ((t.get k).getD undef) v
theorem FR.mono {φ φ' : Phi} (le : Le φ φ') {n : Nat} {t : T Value} {a : Array Value} (h : FR φ n t a) : FR φ' n t a := ⟨h.size, h.lt, fun k v hk => (h.get k v hk).mono le⟩
def OR (φ : Phi) (i : Im) (w : World) : AObj → Prop
 | .cells c n op ro => i.n = n ∧ i.e = op ∧ T.Ok (n) ∧ ∃ arr el, (∃ fz, w.heap[i.c]? = some (.cells arr el fz) ∧ (ro = false → fz = (0, 0)) ∧ ∀ k, k < n → w.frozen? ⟨i.c, k + i.d, none⟩ = false) ∧ arr.size = i.sz ∧ n + i.d ≤ i.sz ∧
  ∀ k, k < n → ∃ v v', c.get k = some v ∧ arr[k + i.d]? = some v' ∧ VR φ v v'
 | .map es clock _ => ∃ arr, w.heap[i.c]? = some (.map arr clock) ∧ ER φ es arr.toList
 | .iter m since seen st => i.d = 0 ∧ ∃ m', w.heap[i.c]? = some (.mapIter m' since ⟨seen⟩ st) ∧ VR φ (.map m) (.map m')
 | .sit s p => i.d = 0 ∧ w.heap[i.c]? = some (.stringIter s p)
 | .loop st pend ts sz ps asg body => ∃ fn arr df, w.heap[i.c]? = some (.loop ⟨st, pend, fn, arr, ⟨ps⟩, asg, body, df⟩) ∧ FR φ sz ts arr
 | .dfr => w.heap[i.c]? = some (.deferred (some []))
 | .bag es => ∃ arr clock es', w.heap[i.c]? = some (.map arr clock) ∧ ER φ es' arr.toList ∧ (es'.map fun e => (e.1, e.2.1)).Perm (es.map fun e => (Value.string e.1, e.2))
 | .tcells ty c n op => i.n = n ∧ i.e = op ∧ i.d = 0 ∧ ∃ arr, w.heap[i.c]? = some (.cells arr ty (0, 0)) ∧ arr.size = i.sz ∧ (n ≤ i.sz ∧ (op = 0 → n = i.sz)) ∧ ∀ k, k < n → ∃ v v', c.get k = some v ∧ arr[k]? = some v' ∧ VR φ v v'
structure R (w0 : World) (φ : Phi) (h : AH) (w : World) : Prop where
 dom : ∀ b i o, φ b = some i → h.m.get b = some o → OR φ i w o
 low : ∀ b i o, φ b = some i → h.m.get b = some o → o.ro = false → w0.heap.size ≤ i.c
 inj : ∀ b b' i i' o o', φ b = some i → φ b' = some i' → h.m.get b = some o → h.m.get b' = some o' → o.ro = false → i.c = i'.c → b = b'
 lt : ∀ b i, φ b = some i → i.c < w.heap.size ∧ b < h.next
 nx : T.Ok (h.next)
 below : Below w0.heap.size w0 w
variable {w0 w w' : World} {φ φ' : Phi} {h h' : AH} {P : Program}
theorem OR.mono (le : Le φ φ') {i : Im} {o : AObj} (k : OR φ i w o) : OR φ' i w o := by
 cases o with
 | cells c n op ro =>
  obtain ⟨h1, h2, h3, arr, el, h4, h5, h6, h7⟩ := k
  exact ⟨h1, h2, h3, arr, el, h4, h5, h6, fun k hk => let ⟨v, v', a, b, c⟩ := h7 k hk; ⟨v, v', a, b, c.mono le⟩⟩
 | map es clock ro => obtain ⟨arr, h1, h2⟩ := k; exact ⟨arr, h1, h2.mono le⟩
 | iter m since seen st => obtain ⟨h0, m', h1, h2⟩ := k; exact ⟨h0, m', h1, h2.mono le⟩
 | sit s p => exact k
 | loop st pend ts sz ps asg body => obtain ⟨fn, arr, df, h1, h2⟩ := k; exact ⟨fn, arr, df, h1, h2.mono le⟩
 | dfr => exact k
 | bag es => obtain ⟨arr, cl, es', h1, h2, h3⟩ := k; exact ⟨arr, cl, es', h1, h2.mono le, h3⟩
 | tcells ty c n op =>
  obtain ⟨h1, h2, h3, arr, h4, h5, h6, h7⟩ := k
  exact ⟨h1, h2, h3, arr, h4, h5, h6, fun k hk => let ⟨v, v', a, b, c⟩ := h7 k hk; ⟨v, v', a, b, c.mono le⟩⟩
theorem OR.world {i : Im} {o : AObj} (e : w'.heap[i.c]? = w.heap[i.c]?) (k : OR φ i w o) : OR φ i w' o := by
 cases o <;> simpa only [OR, World.frozen?, e] using k
theorem OR.ex {i : Im} {o : AObj} (k : OR φ i w o) : ∃ x, w.heap[i.c]? = some x := by
 cases o with
 | cells c n op ro => obtain ⟨_, _, _, arr, el, ⟨fz, h4, _⟩, _⟩ := k; exact ⟨_, h4⟩
 | map es clock ro => obtain ⟨arr, h1, _⟩ := k; exact ⟨_, h1⟩
 | iter m since seen st => obtain ⟨_, m', h1, h2⟩ := k; exact ⟨_, h1⟩
 | sit s p => exact ⟨_, k.2⟩
 | loop st pend ts sz ps asg body => obtain ⟨fn, arr, df, h1, h2⟩ := k; exact ⟨_, h1⟩
 | dfr => exact ⟨_, k⟩
 | bag es => obtain ⟨arr, cl, es', h1, _⟩ := k; exact ⟨_, h1⟩
 | tcells ty c n op => obtain ⟨_, _, _, arr, h4, _⟩ := k; exact ⟨_, h4⟩
def putW (w : World) (c : Nat) (x : Obj) : World := { w with heap := w.heap.setIfInBounds c x }
theorem putW_same {c : Nat} {x : Obj} (hc : c < w.heap.size) : (putW w c x).heap[c]? = some x := by simp [putW, hc]
theorem putW_other {c k : Nat} {x : Obj} (hk : k ≠ c) : (putW w c x).heap[k]? = w.heap[k]? := by simp [putW, Array.getElem?_setIfInBounds_ne (Ne.symm hk)]
theorem putW_size {c : Nat} {x : Obj} : (putW w c x).heap.size = w.heap.size := by simp [putW]
theorem setCell_put {b o : Nat} {v : Value} {arr : Array Value} {el : TypeId} {fr : Nat × Nat} (hb : w.heap[b]? = some (.cells arr el fr)) :
   w.setCell ⟨b, o, none⟩ v = putW w b (.cells (arr.setIfInBounds o v) el fr) := by
 unfold World.setCell putW
 congr 1
 apply Array.ext_getElem?
 intro k
 have hlt := (Array.getElem?_eq_some_iff.1 hb).1
 rw [Array.getElem?_modify, Array.getElem?_setIfInBounds]
 by_cases e : b = k
 · subst e; rw [if_pos rfl, if_pos rfl, if_pos hlt, hb]; rfl
 · rw [if_neg e, if_neg e]
theorem R.put (r : R w0 φ h w) {b : Nat} {i : Im} {o o' : AObj} {x : Obj} (hi : φ b = some i) (ho : h.m.get b = some o) (hro : o.ro = false)
   (hx : ∀ w', w'.heap[i.c]? = some x → OR φ i w' o') : R w0 φ { h with m := h.m.set b (some o') } (putW w i.c x) := by
 have hlt := (r.lt b i hi).1
 have hb : T.Ok (b) := trivial
 have hget : ∀ k, (h.m.set b (some o')).get k = if k = b then some o' else h.m.get k := fun k => T.get_set k
 have back : ∀ {k : Nat} {o2 : AObj}, (h.m.set b (some o')).get k = some o2 → ∃ o3, h.m.get k = some o3 ∧ (k ≠ b → o2 = o3) ∧ (k = b → o2 = o') := by
   intro k o2 hk
   rw [hget] at hk
   by_cases e : k = b
   · subst e; rw [if_pos rfl] at hk; cases hk; exact ⟨o, ho, fun hn => (hn rfl).elim, fun _ => rfl⟩
   · rw [if_neg e] at hk; exact ⟨o2, hk, fun _ => rfl, fun e' => (e e').elim⟩
 refine ⟨fun k j o2 hj hk => ?_, fun k j o2 hj hk hr => ?_, fun k k' j j' o2 o3 hj hj' hk hk' hr hc => ?_, fun k j hj => ⟨by rw [putW_size]; exact (r.lt k j hj).1, (r.lt k j hj).2⟩, r.nx, ?_⟩
 · obtain ⟨o3, h3, h4, h5⟩ := back hk
   by_cases e : k = b
   · subst e
     rw [h5 rfl]
     rw [hi] at hj; cases hj
     exact hx _ (putW_same hlt)
   · rw [h4 e]
     exact (r.dom k j o3 hj h3).world (putW_other (fun hc => e (r.inj b k i j o o3 hi hj ho h3 hro hc.symm).symm))
 · obtain ⟨o3, h3, h4, h5⟩ := back hk
   by_cases e : k = b
   · subst e
     rw [hi] at hj; cases hj
     exact r.low k i o hi ho hro
   · rw [h4 e] at hr; exact r.low k j o3 hj h3 hr
 · obtain ⟨p, h3, h4, _⟩ := back hk
   obtain ⟨p', h3', _⟩ := back hk'
   refine r.inj k k' j j' p p' hj hj' h3 h3' ?_ hc
   by_cases e : k = b
   · subst e; rw [ho] at h3; cases h3; exact hro
   · rw [← h4 e]; exact hr
 · have hl := r.low b i o hi ho hro
   exact r.below.trans ⟨rfl, rfl, rfl, by rw [putW_size]; exact Nat.le_refl _, fun k hk => putW_other (by omega)⟩
theorem R.new (r : R w0 φ h w) {i : Im} {o : AObj} {x : Obj} (hc : i.c = w.heap.size) (hn : T.Ok (h.next)) (hx : ∀ φ' w', Le φ φ' → w'.heap[i.c]? = some x → OR φ' i w' o) :
   ∃ φ', Le φ φ' ∧ φ' h.next = some i ∧ R w0 φ' ⟨h.m.set h.next (some o), h.next + 1⟩ (w.alloc x) ∧ ∀ b j, φ' b = some j → φ b = some j ∨ b = h.next := by
 refine ⟨fun b => if b = h.next then some i else φ b, ?_, if_pos rfl, ?_, fun b j hb => ?_⟩
 rotate_left 2
 · by_cases e : b = h.next
   · exact .inr e
   · exact .inl (by simpa [e] using hb)
 · intro b j hj
   have := (r.lt b j hj).2
   show (if b = h.next then some i else φ b) = some j
   rw [if_neg (by omega)]; exact hj
 · have le : Le φ (fun b => if b = h.next then some i else φ b) := by
     intro b j hj
     have := (r.lt b j hj).2
     show (if b = h.next then some i else φ b) = some j
     rw [if_neg (by omega)]; exact hj
   have hnew : (w.alloc x).heap[i.c]? = some x := by
     show (w.heap.push x)[i.c]? = some x
     rw [hc]; simp
   have hold : ∀ k, k < w.heap.size → (w.alloc x).heap[k]? = w.heap[k]? := fun k hk => Below.heap_alloc w x k hk
   have hget : ∀ k, (h.m.set h.next (some o)).get k = if k = h.next then some o else h.m.get k := fun k => T.get_set k
   refine ⟨fun k j o2 hj hk => ?_, fun k j o2 hj hk hr => ?_, fun k k' j j' o2 o3 hj hj' hk hk' hr hcc => ?_, fun k j hj => ?_, hn, r.below.trans ⟨rfl, rfl, rfl, by simp, fun k hk => hold k (Nat.lt_of_lt_of_le hk r.below.size)⟩⟩
   · rw [hget] at hk
     by_cases e : k = h.next
     · subst e; rw [if_pos rfl] at hk; cases hk
       rw [if_pos rfl] at hj; cases hj
       exact hx _ _ le hnew
     · rw [if_neg e] at hk hj
       exact ((r.dom k j o2 hj hk).world (hold _ (r.lt k j hj).1)).mono le
   · rw [hget] at hk
     by_cases e : k = h.next
     · subst e
       rw [if_pos rfl] at hj; cases hj
       rw [hc]; exact r.below.size
     · rw [if_neg e] at hk hj
       exact r.low k j o2 hj hk hr
   · rw [hget] at hk hk'
     by_cases e : k = h.next
     · by_cases e' : k' = h.next
       · rw [e, e']
       · subst e
         rw [if_pos rfl] at hj; cases hj
         rw [if_neg e'] at hj'
         have := (r.lt k' j' hj').1
         omega
     · by_cases e' : k' = h.next
       · subst e'
         rw [if_pos rfl] at hj'; cases hj'
         rw [if_neg e] at hj
         have := (r.lt k j hj).1
         omega
       · rw [if_neg e] at hk hj
         rw [if_neg e'] at hk' hj'
         exact r.inj k k' j j' o2 o3 hj hj' hk hk' hr hcc
   · by_cases e : k = h.next
     · subst e; rw [if_pos rfl] at hj; cases hj
       rw [hc]; simp
     · rw [if_neg e] at hj
       have := r.lt k j hj
       refine ⟨?_, ?_⟩
       · simp; omega
       · show k < h.next + 1; omega
theorem R.drew (r : R w0 φ h w) : R w0 φ h w.drew := ⟨fun b i o h1 h2 => (r.dom b i o h1 h2).world rfl, r.low, r.inj, r.lt, r.nx, r.below.drew⟩
theorem R.drop (r : R w0 φ h w) (b : Nat) (_hb : T.Ok (b)) : R w0 φ { h with m := h.m.set b none } w := by
 have hget : ∀ {k o}, (h.m.set b none).get k = some o → h.m.get k = some o := by
  intro k o hk
  rw [T.get_set] at hk
  by_cases e : k = b
  · rw [if_pos e] at hk; cases hk
  · rw [if_neg e] at hk; exact hk
 exact ⟨fun k j o hj hk => r.dom k j o hj (hget hk), fun k j o hj hk hr => r.low k j o hj (hget hk) hr, fun k k' j j' o o' hj hj' hk hk' hr hc => r.inj k k' j j' o o' hj hj' (hget hk) (hget hk') hr hc, r.lt, r.nx, r.below⟩
def AH.cell (h : AH) (a : Addr) : Option Value :=
 match h.m.get a.block with
 | some (.cells c n _ _) => if a.off < n then (match a.spot with | none => c.get a.off | some _ => none) else none
 | some (.tcells _ c n _) => if a.off < n then (match a.spot with | none => c.get a.off | some _ => none) else none
 | _ => none
theorem R.cell (r : R w0 φ h w) {a : Addr} {i : Im} {v : Value} (hi : φ a.block = some i) (hv : h.cell a = some v) :
   ∃ v', w.cell? ⟨i.c, a.off + i.d, none⟩ = some v' ∧ w.frozen? ⟨i.c, a.off + i.d, none⟩ = false ∧ VR φ v v' := by
 unfold AH.cell at hv
 split at hv
 · rename_i c n op ro ho
   by_cases hn : a.off < n
   · rw [if_pos hn] at hv
     cases hs : a.spot with
     | some s => rw [hs] at hv; cases hv
     | none =>
      rw [hs] at hv
      obtain ⟨h1, h2, h3, arr, el, ⟨fz, h4, _, hfr⟩, h5, h6, h7⟩ := r.dom _ _ _ hi ho
      obtain ⟨u, v', hu, hv', hr⟩ := h7 _ hn
      rw [hu] at hv; cases hv
      refine ⟨v', ?_, hfr _ hn, hr⟩
      simp only [World.cell?, h4]; simpa using hv'
   · rw [if_neg hn] at hv; cases hv
 · rename_i ty c n op ho
   by_cases hn : a.off < n
   · rw [if_pos hn] at hv
     cases hs : a.spot with
     | some s => rw [hs] at hv; cases hv
     | none =>
      rw [hs] at hv
      obtain ⟨h1, h2, h3, arr, h4, h5, h6, h7⟩ := r.dom _ _ _ hi ho
      obtain ⟨u, v', hu, hv', hr⟩ := h7 _ hn
      rw [hu] at hv; cases hv
      refine ⟨v', ?_, by simp [World.frozen?, h4], hr⟩
      simp only [World.cell?, h4, h3]; simpa using hv'
   · rw [if_neg hn] at hv; cases hv
 · cases hv
def AH.setc (h : AH) (a : Addr) (v : Value) : Option AH :=
 match h.m.get a.block with
 | some (.cells c n op false) => if a.off < n then (match a.spot with | none => some { h with m := h.m.set a.block (some (.cells (c.set a.off (some v)) n op false)) } | some _ => none) else none
 | some (.tcells ty c n op) => if a.off < n then (match a.spot with | none => some { h with m := h.m.set a.block (some (.tcells ty (c.set a.off (some v)) n op)) } | some _ => none) else none
 | _ => none
theorem R.setc (r : R w0 φ h w) {a : Addr} {i : Im} {v v' : Value} (hi : φ a.block = some i) (hs : h.setc a v = some h') (hv : VR φ v v') :
   R w0 φ h' (w.setCell ⟨i.c, a.off + i.d, none⟩ v') ∧ (w.cell? ⟨i.c, a.off + i.d, none⟩).isSome = true ∧ w.frozen? ⟨i.c, a.off + i.d, none⟩ = false := by
 unfold AH.setc at hs
 split at hs
 · rename_i c n op ho
   by_cases hn : a.off < n
   · rw [if_pos hn] at hs
     cases hsp : a.spot with
     | some s => rw [hsp] at hs; cases hs
     | none =>
      rw [hsp] at hs; cases hs
      obtain ⟨h1, h2, h3, arr, el, ⟨fz, h4, hro, _⟩, h5, h6, h7⟩ := r.dom _ _ _ hi ho
      cases hro rfl
      rw [setCell_put h4]
      refine ⟨r.put hi ho rfl (fun w' hw' => ⟨h1, h2, h3, _, el, ⟨(0, 0), hw', fun _ => rfl, fun k _ => by simp [World.frozen?, hw']⟩, by simpa using h5, h6, fun k hk => ?_⟩), ?_, ?_⟩
      · obtain ⟨u, u', hu, hu', hr⟩ := h7 k hk
        by_cases e : k = a.off
        · subst e
          refine ⟨v, v', by rw [T.get_set, if_pos rfl], ?_, hv⟩
          have := (Array.getElem?_eq_some_iff.1 hu').1
          simp [this]
        · refine ⟨u, u', by rw [T.get_set, if_neg e]; exact hu, ?_, hr⟩
          rw [Array.getElem?_setIfInBounds_ne (by omega)]; exact hu'
      · simp only [World.cell?, h4]
        obtain ⟨u, u', hu, hu', hr⟩ := h7 _ hn
        simp [hu']
      · simp only [World.frozen?, h4]; simp
   · rw [if_neg hn] at hs; cases hs
 · rename_i ty c n op ho
   by_cases hn : a.off < n
   · rw [if_pos hn] at hs
     cases hsp : a.spot with
     | some s => rw [hsp] at hs; cases hs
     | none =>
      rw [hsp] at hs; cases hs
      obtain ⟨h1, h2, h3, arr, h4, h5, h6, h7⟩ := r.dom _ _ _ hi ho
      rw [setCell_put h4]
      refine ⟨r.put hi ho rfl (fun w' hw' => ⟨h1, h2, h3, _, hw', by simpa using h5, h6, fun k hk => ?_⟩), ?_, ?_⟩
      · obtain ⟨u, u', hu, hu', hr⟩ := h7 k hk
        by_cases e : k = a.off
        · subst e
          refine ⟨v, v', by rw [T.get_set, if_pos rfl], ?_, hv⟩
          have := (Array.getElem?_eq_some_iff.1 hu').1
          simp [h3, this]
        · refine ⟨u, u', by rw [T.get_set, if_neg e]; exact hu, ?_, hr⟩
          rw [Array.getElem?_setIfInBounds_ne (by omega)]; exact hu'
      · simp only [World.cell?, h4, h3]
        obtain ⟨u, u', hu, hu', hr⟩ := h7 _ hn
        simp [hu']
      · simp only [World.frozen?, h4]; simp
   · rw [if_neg hn] at hs; cases hs
 · cases hs
def AH.cells (h : AH) (a : Addr) : Nat → Nat → Option (List Value)
 | _, 0 => some []
 | i, n + 1 => match h.cell { a with off := a.off + i } with
  | some v => match h.cells a (i + 1) n with
   | some l => some (v :: l)
   | none => none
  | none => none
theorem R.cells (r : R w0 φ h w) {a : Addr} {i : Im} (hi : φ a.block = some i) : ∀ (n k : Nat) {l : List Value}, h.cells a k n = some l →
  ∃ l', l'.length = n ∧ (∀ j v, l'[j]? = some v → w.cell? ⟨i.c, a.off + i.d + (k + j), none⟩ = some v) ∧ LR φ l l' := by
 intro n
 induction n with
 | zero => intro k l hl; simp only [AH.cells] at hl; cases hl; exact ⟨[], rfl, fun j v hj => by simp at hj, .nil⟩
 | succ n ih =>
  intro k l hl
  simp only [AH.cells] at hl
  split at hl
  · rename_i v hv
    split at hl
    · rename_i m hm
      cases hl
      obtain ⟨v', h1, _, h2⟩ := r.cell (a := { a with off := a.off + k }) hi hv
      obtain ⟨m', h3, h4, h5⟩ := ih (k + 1) hm
      refine ⟨v' :: m', by simp [h3], fun j u hj => ?_, .cons h2 h5⟩
      cases j with
      | zero =>
       simp at hj; subst hj
       rw [show a.off + i.d + (k + 0) = a.off + k + i.d by omega]
       exact h1
      | succ j =>
       have := h4 j u (by simpa using hj)
       rw [show a.off + i.d + (k + (j + 1)) = a.off + i.d + (k + 1 + j) by omega]
       exact this
    · cases hl
  · cases hl
theorem addEq (b o k : Nat) : (⟨b, o, none⟩ : Addr).add k = ⟨b, o + k, none⟩ := by unfold Addr.add; split <;> simp_all
theorem run_loadCells_at {b o n : Nat} {l : List Value} (hl : l.length = n) (hc : ∀ j v, l[j]? = some v → w.cell? ⟨b, o + j, none⟩ = some v) : (loadCells ⟨b, o, none⟩ n).run P w = .ok ⟨l⟩ w := by
 subst hl
 exact run_loadCells_list _ _ _ (fun j v hj => by rw [addEq]; exact hc j v hj)
def AH.setcs (h : AH) (a : Addr) : Nat → List Value → Option AH
 | _, [] => some h
 | i, v :: l => if v.oneCell' then (match h.setc { a with off := a.off + i } v with
  | some h => h.setcs a (i + 1) l
  | none => none) else none
theorem R.setcs {a : Addr} {i : Im} (hi : φ a.block = some i) : ∀ (l : List Value) (k : Nat) {l' : List Value} {h : AH} {w : World}, R w0 φ h w → h.setcs a k l = some h' → LR φ l l' →
  ∃ w', (storeCells ⟨i.c, a.off + i.d, none⟩ l' k).run P w = .ok () w' ∧ R w0 φ h' w' := by
 intro l
 induction l with
 | nil => intro k l' h w r hs hl; cases hl; simp only [AH.setcs] at hs; cases hs; exact ⟨w, by simp [storeCells], r⟩
 | cons v l ih =>
  intro k l' h w r hs hl
  cases hl with
  | cons hv ht =>
   rename_i v' l'
   simp only [AH.setcs] at hs
   split at hs
   · rename_i h1
     split at hs
     · rename_i h2 hset
       obtain ⟨r2, hc, hf⟩ := r.setc (a := { a with off := a.off + k }) hi hset hv
       obtain ⟨w', hw, r'⟩ := ih (k + 1) r2 hs ht
       refine ⟨w', ?_, r'⟩
       obtain ⟨u, hu⟩ := Option.isSome_iff_exists.1 hc
       unfold storeCells
       have e : (⟨i.c, a.off + i.d, none⟩ : Addr).add k = ⟨i.c, a.off + k + i.d, none⟩ := by rw [addEq]; congr 1; omega
       rw [e]
       have h1' : v'.oneCell' = true := by rw [hv.one]; exact h1
       rw [Sem.run_bind, run_store _ _ _ _ _ h1', show w.cell? ⟨i.c, a.off + k + i.d, none⟩ = some u from hu]
       simp only [show w.frozen? ⟨i.c, a.off + k + i.d, none⟩ = false from hf]
       simpa [Result.andThen] using hw
     · cases hs
   · cases hs
def AH.newc (h : AH) (l : List Value) : Option (Nat × AH) :=
 if true = true then some (h.next, ⟨h.m.set h.next (some (.cells (T.fill l 0 .e) l.length 0 false)), h.next + 1⟩) else none
end
end Go.X
namespace Go.X
noncomputable section
open Go Go.RowKit
structure Nx (φ φ' : Phi) (h h' : AH) : Prop where
 le : Le φ φ'
 next : h.next ≤ h'.next
 ghost : ∀ b, φ b = none → b < h.next → φ' b = none ∧ h'.m.get b = h.m.get b
theorem Nx.refl (φ : Phi) (h : AH) : Nx φ φ h h := ⟨Le.refl φ, Nat.le_refl _, fun _ h _ => ⟨h, rfl⟩⟩
theorem Nx.trans {φ φ' φ'' : Phi} {h h' h'' : AH} (a : Nx φ φ' h h') (b : Nx φ' φ'' h' h'') : Nx φ φ'' h h'' :=
 ⟨a.le.trans b.le, Nat.le_trans a.next b.next, fun k hk hl => by
  obtain ⟨h1, h2⟩ := a.ghost k hk hl
  obtain ⟨h3, h4⟩ := b.ghost k h1 (Nat.lt_of_lt_of_le hl a.next)
  exact ⟨h3, h4.trans h2⟩⟩
variable {w0 w w' : World} {φ φ' : Phi} {h h' : AH} {P : Program} {n : Nat} {t : T Value}
def SimV (w0 : World) (P : Program) (φ : Phi) (h : AH) (w : World) (s : Sem Value) (v : Value) (h' : AH) : Prop :=
 ∃ v' w' φ', s.run P w = .ok v' w' ∧ Nx φ φ' h h' ∧ R w0 φ' h' w' ∧ VR φ' v v'
theorem SimV.pure (r : R w0 φ h w) {v v' : Value} (hv : VR φ v v') : SimV w0 P φ h w (Pure.pure v') v h := ⟨v', w, φ, rfl, .refl φ h, r, hv⟩
theorem SimV.here (r : R w0 φ h w) {v v' : Value} {s : Sem Value} (hs : s.run P w = .ok v' w) (hv : VR φ v v') : SimV w0 P φ h w s v h := ⟨v', w, φ, hs, .refl φ h, r, hv⟩
def pureRun {α : Type} (P : Program) : Sem α → Option α
 | .pure a => some a
 | .program k => pureRun P (k P)
 | .mark _ k => pureRun P k
 | _ => none
theorem run_of_pure {α : Type} {e : Sem α} {a : α} (h : pureRun P e = some a) (w : World) : e.run P w = .ok a w := by
 induction e with
 | pure x => simp only [pureRun] at h; cases h; rfl
 | program k ih => simp only [pureRun] at h; exact ih P h
 | mark m k ih => simp only [pureRun] at h; exact ih h
 | _ => simp [pureRun] at h
def aEv (t : T Value) : Operand → Option Value
 | .tmp k => some ((t.get k).getD undef)
 | .const v => if pfv v then some v else none
 | .func f => some (.func (.func f) #[] #[])
 | .global _ => none
theorem VR.undef : VR φ undef undef := .tuple' .nil
theorem FR.at {a : Array Value} (f : FR φ n t a) (k : Nat) : k < n → VR φ ((t.get k).getD Go.undef) (a.getD k Go.undef) := by
 intro hk
 have : a[k]? = some (a.getD k Go.undef) := by
  rw [Array.getD_eq_getD_getElem?, Array.getElem?_eq_getElem (by rw [f.size]; exact hk)]; simp
 exact f.get k _ this
def opnOk (n : Nat) : Operand → Bool
 | .tmp k => decide (k < n)
 | _ => true
theorem aEv_ok {a : Act} (f : FR φ n t a.tmps) {x : Operand} {v : Value} (hn : opnOk n x = true) (h : aEv t x = some v) : VR φ v (a.eval x) := by
 cases x with
 | tmp k => simp only [aEv] at h; cases h; exact f.at k (by simpa [opnOk] using hn)
 | const v =>
  simp only [aEv] at h
  split at h
  · cases h; exact pfv_refl φ ‹_›
  · cases h
 | func k => simp only [aEv] at h; cases h; exact .func' (.same (fun l e => by cases e)) .nil .nil
 | global g => simp [aEv] at h
def isAg : TypeDesc → Bool
 | .struct _ | .array _ _ => true
 | _ => false
theorem rU {T : TypeId} {d : TypeDesc} (h : P.underlying T = some d) (w : World) : (underlying T).run P w = .ok d w := run_underlying h w
theorem rI {T : TypeId} {d : TypeInfo} (h : P.info? T = some d) (w : World) : (typeInfo T).run P w = .ok d w := by simp [typeInfo, h]
theorem rS {T : TypeId} {d : TypeInfo} (h : P.info? T = some d) (w : World) : (sizeOf T).run P w = .ok d.size w := by simp [sizeOf, typeInfo, h]
theorem rZ {T : TypeId} {d : TypeInfo} {z : Value} (h : P.info? T = some d) (hz : d.zero = some z) (w : World) : (zeroValue T).run P w = .ok z w := by simp [zeroValue, typeInfo, h, hz]
theorem rA {T : TypeId} {d : TypeDesc} (h : P.underlying T = some d) (w : World) : (isAgg T).run P w = .ok (isAg d) w := by
 unfold isAgg
 simp only [Sem.run_bind, rU h, Result.andThen_ok]
 cases d <;> simp [isAg]
def szOf (P : Program) (T : TypeId) : Option Nat := (P.info? T).map (·.size)
theorem rSz {T : TypeId} {k : Nat} (h : szOf P T = some k) (w : World) : (sizeOf T).run P w = .ok k w := by
 unfold szOf at h
 obtain ⟨i, h1, h2⟩ := Option.map_eq_some_iff.1 h
 rw [← h2]; exact rS h1 w
def zeroOf (P : Program) (T : TypeId) : Option Value := match P.info? T with
 | some i => match i.zero with
  | some z => if pfv z then some z else none
  | none => none
 | none => none
theorem rZero {T : TypeId} {z : Value} (h : zeroOf P T = some z) (w : World) : (zeroValue T).run P w = .ok z w ∧ pfv z = true := by
 unfold zeroOf at h
 split at h
 · rename_i i hi
   split at h
   · rename_i z' hz
     split at h
     · cases h; exact ⟨rZ hi hz w, ‹_›⟩
     · cases h
   · cases h
 · cases h
theorem Nx.new (le : Le φ φ') {o : AObj} (hb : ∀ b i, φ' b = some i → φ b = some i ∨ b = h.next) (_hn : T.Ok (h.next)) : Nx φ φ' h ⟨h.m.set h.next (some o), h.next + 1⟩ :=
  ⟨le, Nat.le_succ _, fun b h1 h2 => ⟨by
    cases hb' : φ' b with
    | none => rfl
    | some i => rcases hb b i hb' with h3 | h3
                · rw [h1] at h3; cases h3
                · omega, by
    show (h.m.set h.next (some o)).get b = _
    rw [T.get_set, if_neg (by omega)]⟩⟩
def aLoad (P : Program) (T : TypeId) (a : Addr) (h : AH) : Option Value := match P.underlying T with
 | some d => if isAg d then (match szOf P T with
  | some k => (match a.spot, h.cells a 0 k with
   | none, some l => some (.agg ⟨l⟩)
   | _, _ => none)
  | none => none) else h.cell a
 | none => none
theorem run_loadVar_at (r : R w0 φ h w) {a : Addr} {i : Im} {T : TypeId} {v : Value} (hi : φ a.block = some i) (hs : aLoad P T a h = some v) :
   ∃ v', (loadVar T ⟨i.c, a.off + i.d, none⟩).run P w = .ok v' w ∧ VR φ v v' := by
 unfold aLoad at hs
 split at hs
 · rename_i d hd
   unfold loadVar
   simp only [Sem.run_bind, rA hd, Result.andThen_ok]
   split at hs
   · rename_i hag
     split at hs
     · rename_i k hk
       split at hs
       · rename_i l hsp hl
         cases hs
         obtain ⟨l', h1, h2, h3⟩ := r.cells hi _ _ hl
         rw [hag]
         simp only [if_true, Sem.run_bind, rSz hk, Result.andThen_ok]
         rw [run_loadCells_at h1 (fun j v hj => by have := h2 j v hj; rwa [Nat.zero_add] at this)]
         exact ⟨_, rfl, .agg' h3⟩
       · cases hs
     · cases hs
   · rename_i hag
     obtain ⟨v', h1, _, h2⟩ := r.cell hi hs
     simp only [Bool.not_eq_true] at hag
     rw [hag]
     simp only [Bool.false_eq_true, if_false, run_load, h1]
     exact ⟨v', rfl, h2⟩
 · cases hs
theorem VR.ptr_inv {v : Value} {a : Addr} (hv : VR φ (.pointer (some a)) v) : ∃ i, φ a.block = some i ∧ a.spot = none ∧ v = .pointer (some ⟨i.c, a.off + i.d, none⟩) := by
 cases hv with
 | ptr i hi hs => exact ⟨i, hi, hs, rfl⟩
theorem sim_load (r : R w0 φ h w) {a : Addr} {T : TypeId} {v v' : Value} (hs : aLoad P T a h = some v) (hv : VR φ (.pointer (some a)) v') : SimV w0 P φ h w (Instr.loadAt T v') v h := by
 obtain ⟨i, hi, _, rfl⟩ := hv.ptr_inv
 obtain ⟨u, h1, h2⟩ := run_loadVar_at r hi hs
 exact .here r (by simpa [Instr.loadAt, Instr.sureAddr] using h1) h2
theorem Nx.put {b : Nat} {i : Im} {o : AObj} (hi : φ b = some i) (hb : T.Ok (b)) : Nx φ φ h { h with m := h.m.set b (some o) } :=
 ⟨Le.refl φ, Nat.le_refl _, fun k hk _ => ⟨hk, by
  show (h.m.set b (some o)).get k = _
  rw [T.get_set, if_neg (fun e => by subst e; rw [hi] at hk; cases hk)]⟩⟩
theorem setc_shape {a : Addr} {v : Value} (hs : h.setc a v = some h') : ∃ o, h' = { h with m := h.m.set a.block (some o) } := by
 unfold AH.setc at hs
 split at hs
 · split at hs
   · split at hs
     · cases hs; exact ⟨_, rfl⟩
     · cases hs
   · cases hs
 · split at hs
   · split at hs
     · cases hs; exact ⟨_, rfl⟩
     · cases hs
   · cases hs
 · cases hs
theorem Nx.setcs {a : Addr} {i : Im} (hi : φ a.block = some i) (hb : T.Ok (a.block)) : ∀ (l : List Value) (k : Nat) {h : AH}, h.setcs a k l = some h' → Nx φ φ h h' := by
 intro l
 induction l with
 | nil => intro k h hs; simp only [AH.setcs] at hs; cases hs; exact .refl φ _
 | cons v l ih =>
  intro k h hs
  simp only [AH.setcs] at hs
  split at hs
  · split at hs
    · rename_i h2 hset
      obtain ⟨o, rfl⟩ := setc_shape hset
      exact (Nx.put hi hb).trans (ih _ hs)
    · cases hs
  · cases hs
def aStore (P : Program) (T : TypeId) (a : Addr) (v : Value) (h : AH) : Option AH := match szOf P T with
 | some k => if (cellsL v).length = k then h.setcs a 0 (cellsL v) else none
 | none => none
theorem sim_store (r : R w0 φ h w) {a : Addr} {T : TypeId} {v v' p : Value} (hs : aStore P T a v h = some h') (hp : VR φ (.pointer (some a)) p) (hv : VR φ v v') :
   ∃ w', (Instr.storeAt T p v').run P w = .ok () w' ∧ Nx φ φ h h' ∧ R w0 φ h' w' := by
 obtain ⟨i, hi, _, rfl⟩ := hp.ptr_inv
 unfold aStore at hs
 split at hs
 · rename_i k hk
   split at hs
   · rename_i hl
     obtain ⟨w', h1, h2⟩ := R.setcs hi _ 0 r hs hv.cells
     refine ⟨w', ?_, .setcs hi trivial _ _ hs, h2⟩
     have hc : v'.cells.size = k := by rw [cells_eq]; simp [← hv.cells.length, hl]
     simp only [Instr.storeAt, Instr.sureAddr, storeVar, Sem.run_bind, Sem.run_pure, Result.andThen_ok, rSz hk, hc, ne_eq, not_true_eq_false, if_false]
     rw [cellsL_eq]
     exact h1
   · cases hs
 · cases hs
end
end Go.X
namespace Go.X
noncomputable section
open Go Go.RowKit
variable {w0 w w' : World} {φ φ' : Phi} {h h' : AH} {P : Program}
def aField (P : Program) (s : TypeId) (a : Addr) (f : Nat) : Option Value := match P.underlying s with
 | some (.struct fs) => match fs[f]? with
  | some fd => match szOf P fd.type, a.spot with
   | some (_ + 1), none => some (.pointer (some ⟨a.block, a.off + fd.offset, none⟩))
   | _, _ => none
  | none => none
 | _ => none
theorem sim_field (r : R w0 φ h w) {s : TypeId} {a : Addr} {f : Nat} {v p : Value} (hs : aField P s a f = some v) (hp : VR φ (.pointer (some a)) p) : SimV w0 P φ h w (Instr.fieldAt s p f) v h := by
 obtain ⟨i, hi, _, rfl⟩ := hp.ptr_inv
 unfold aField at hs
 split at hs
 · rename_i fs hu
   split at hs
   · rename_i fd hf
     split at hs
     · rename_i k hk _
       cases hs
       refine .here r (v' := .pointer (some ⟨i.c, a.off + i.d + fd.offset, none⟩)) ?_ ?_
       · simp [Instr.fieldAt, run_underlying hu, hf, Instr.sureAddr, fieldPlace, rSz hk, addEq]
       · rw [show a.off + i.d + fd.offset = a.off + fd.offset + i.d by omega]
         exact .ptr (a := ⟨a.block, a.off + fd.offset, none⟩) i hi rfl
     · cases hs
   · cases hs
 · cases hs
theorem VR.sl_inv {a : Addr} {l c : Nat} {v : Value} (hv : VR φ (.slice (some a) l c) v) (h0 : c ≠ 0) (ho : c ≠ open_) :
  ∃ i, φ a.block = some i ∧ a.spot = none ∧ v = .slice (some ⟨i.c, a.off + i.d, none⟩) l c := by
 cases hv with
 | slice0 => exact (h0 rfl).elim
 | slice i hi hs hc => exact ⟨i, hi, hs, rfl⟩
 | opens => exact (ho rfl).elim
theorem VR.sl_inv0 {a : Addr} {l : Nat} {v : Value} (hv : VR φ (.slice (some a) l 0) v) : ∃ a', v = .slice (some a') l 0 := by
 cases hv with
 | slice0 => exact ⟨_, rfl⟩
 | slice i hi hs hc => exact ⟨_, rfl⟩
theorem VR.sl_invO {a : Addr} {l : Nat} {v : Value} (hv : VR φ (.slice (some a) l open_) v) :
  ∃ a' c' i, v = .slice (some a') l c' ∧ φ a.block = some i ∧ a.spot = none ∧ 0 < i.e ∧ l ≤ c' ∧ i.n ≤ a.off + c' * i.e ∧ a.off + i.d + c' * i.e ≤ i.sz ∧ (0 < c' → a' = ⟨i.c, a.off + i.d, none⟩) := by
 cases hv with
 | slice i hi hs hc => exact (hc rfl).elim
 | opens i hi hs ho hl hn hz ha => exact ⟨_, _, i, rfl, hi, hs, ho, hl, hn, hz, ha⟩
theorem VR.sl_some {a : Addr} {l c : Nat} {v : Value} (hv : VR φ (.slice (some a) l c) v) (h0 : c ≠ 0) (hl : l ≠ 0) :
   ∃ i c', φ a.block = some i ∧ a.spot = none ∧ v = .slice (some ⟨i.c, a.off + i.d, none⟩) l c' := by
 by_cases ho : c = open_
 · subst ho
   obtain ⟨a', c', i, rfl, hi, hs, _, hlc, _, _, ha⟩ := hv.sl_invO
   exact ⟨i, c', hi, hs, by rw [ha (by omega)]⟩
 · obtain ⟨i, hi, hs, rfl⟩ := hv.sl_inv h0 ho
   exact ⟨i, c, hi, hs, rfl⟩
def aIndex (P : Program) (T : TypeId) (x i : Value) : Option Value := match i with
 | .int _ j => match P.underlying T, x with
  | some (.slice el), .slice (some a) l c => if c ≠ 0 ∧ 0 ≤ j ∧ j < l then (match szOf P el with
   | some k => some (.pointer (some ⟨a.block, a.off + j.toNat * k, none⟩))
   | none => none) else none
  | some (.array l el), .pointer (some a) => if 0 ≤ j ∧ j < l then (match szOf P el with
   | some k => some (.pointer (some ⟨a.block, a.off + j.toNat * k, none⟩))
   | none => none) else none
  | _, _ => none
 | _ => none
theorem VR.int_inv {k : IntKind} {n : Int} {v : Value} (hv : VR φ (.int k n) v) : v = .int k n := by cases hv; rfl
theorem VR.bool_inv {b : Bool} {v : Value} (hv : VR φ (.bool b) v) : v = .bool b := by cases hv; rfl
theorem sim_index (r : R w0 φ h w) {T : TypeId} {x i v x' i' : Value} (hs : aIndex P T x i = some v) (hx : VR φ x x') (hi : VR φ i i') : SimV w0 P φ h w (Instr.indexAt T x' i') v h := by
 unfold aIndex at hs
 split at hs
 · rename_i k j
   obtain rfl := hi.int_inv
   split at hs
   · rename_i el a l c hu
     split at hs
     · rename_i hc
       split at hs
       · rename_i k hk
         cases hs
         obtain ⟨i, c', hi, hsp, rfl⟩ := hx.sl_some hc.1 (by omega)
         refine .here r (v' := .pointer (some ⟨i.c, a.off + i.d + j.toNat * k, none⟩)) ?_ ?_
         · simp [Instr.indexAt, asIntOf, run_underlying hu, hc.2.1, hc.2.2, rSz hk, addEq]
         · rw [show a.off + i.d + j.toNat * k = a.off + j.toNat * k + i.d by omega]
           exact .ptr (a := ⟨a.block, a.off + j.toNat * k, none⟩) i hi rfl
       · cases hs
     · cases hs
   · rename_i l el a hu
     split at hs
     · rename_i hc
       split at hs
       · rename_i k hk
         cases hs
         obtain ⟨i, hi, hsp, rfl⟩ := hx.ptr_inv
         refine .here r (v' := .pointer (some ⟨i.c, a.off + i.d + j.toNat * k, none⟩)) ?_ ?_
         · simp [Instr.indexAt, asIntOf, run_underlying hu, hc.1, hc.2, rSz hk, addEq, Instr.sureAddr]
         · rw [show a.off + i.d + j.toNat * k = a.off + j.toNat * k + i.d by omega]
           exact .ptr (a := ⟨a.block, a.off + j.toNat * k, none⟩) i hi rfl
       · cases hs
     · cases hs
   · cases hs
 · cases hs
def bnd (x : Option Value) (d : Nat) : Option Nat := match x with
 | none => some d
 | some (.int _ j) => if 0 ≤ j then some j.toNat else none
 | _ => none
theorem run_bounds {isS : Bool} {len cap l hh m : Nat} {lo hi mx : Option Value} (hm : bnd mx cap = some m) (hh' : bnd hi len = some hh) (hl : bnd lo 0 = some l) (h1 : l ≤ hh) (h2 : hh ≤ m) (h3 : m ≤ cap)
  (hmh : mx.isSome = true → hi.isSome = true) : (Instr.sliceBounds isS len cap lo hi mx).run P w = .ok (l, hh, m) w := by
 have key : ∀ {x : Value} {d r y : Nat} {c : BoundsCode}, bnd (some x) d = some r → r ≤ y → (Instr.sliceBound x y c).run P w = .ok r w := by
  intro x d r y c hb hy
  unfold bnd at hb
  split at hb
  · rename_i h; cases h
  · rename_i k j h; cases h
    split at hb
    · cases hb
      have : j ≤ (y : Int) := by omega
      simp [Instr.sliceBound, asIntOf, *]
    · cases hb
  · cases hb
 unfold Instr.sliceBounds
 cases mx with
 | none =>
  simp only [bnd] at hm; cases hm
  cases hi with
  | none =>
    simp only [bnd] at hh'; cases hh'
    cases lo with
    | none => simp only [bnd] at hl; cases hl; simp
    | some x => have := fun c => key (c := c) hl h1; simp [this]
  | some x =>
    have k1 := fun c => key (c := c) hh' h2
    cases lo with
    | none => simp only [bnd] at hl; cases hl; simp [k1]
    | some y => have := fun c => key (c := c) hl h1; simp [this, k1]
 | some z =>
  have k0 := fun c => key (c := c) hm h3
  cases hi with
  | none => simp at hmh
  | some x =>
    have k1 := fun c => key (c := c) hh' h2
    cases lo with
    | none => simp only [bnd] at hl; cases hl; simp [k1, k0]
    | some y => have := fun c => key (c := c) hl h1; simp [this, k1, k0]
def opOf (h : AH) (b : Nat) : Option (Nat × Nat) := match h.m.get b with
 | some (.cells _ n op false) => some (n, op)
 | some (.tcells _ _ n op) => some (n, op)
 | _ => none
theorem R.opOf (r : R w0 φ h w) {b n op : Nat} {i : Im} (hi : φ b = some i) (ho : opOf h b = some (n, op)) : i.n = n ∧ i.e = op := by
 unfold X.opOf at ho
 split at ho
 · rename_i c n' op' hg
   cases ho
   obtain ⟨h1, h2, _⟩ := r.dom _ _ _ hi hg
   exact ⟨h1, h2⟩
 · rename_i ty c n' op' hg
   cases ho
   obtain ⟨h1, h2, _⟩ := r.dom _ _ _ hi hg
   exact ⟨h1, h2⟩
 · cases ho
def mxOk (hi mx : Option Value) : Bool := !mx.isSome || hi.isSome
def aSlice (P : Program) (T : TypeId) (x : Value) (lo hi mx : Option Value) (h : AH) : Option Value :=
  if mxOk hi mx then match P.underlying T, x with
  | some (.slice el), .slice (some a) len cap => match szOf P el with
    | none => none
    | some k =>
      if cap = open_ then
        (match mx with
         | none => (match bnd hi len, bnd lo 0, opOf h a.block with
           | some hh, some l, some (n, op) => if l ≤ hh ∧ op = k ∧ (hh ≤ len ∨ a.off + hh * k ≤ n) then some (.slice (some ⟨a.block, a.off + l * k, none⟩) (hh - l) open_) else none
           | _, _, _ => none)
         | some _ => (match bnd mx 0, bnd hi len, bnd lo 0, opOf h a.block with
           | some m, some hh, some l, some (n, op) => if l ≤ hh ∧ hh ≤ m ∧ op = k ∧ a.off + m * k ≤ n ∧ m < open_ then
               some (.slice (some (if m = l then a else ⟨a.block, a.off + l * k, none⟩)) (hh - l) (m - l)) else none
           | _, _, _, _ => none))
      else (match bnd mx cap, bnd hi len, bnd lo 0 with
        | some m, some hh, some l => if l ≤ hh ∧ hh ≤ m ∧ m ≤ cap ∧ cap < open_ then some (.slice (some (if m = l then a else ⟨a.block, a.off + l * k, none⟩)) (hh - l) (m - l)) else none
        | _, _, _ => none)
  | some (.array n el), .pointer (some a) => (match szOf P el, bnd mx n, bnd hi n, bnd lo 0 with
    | some k, some m, some hh, some l => if l ≤ hh ∧ hh ≤ m ∧ m ≤ n ∧ n < open_ then some (.slice (some (if m = l then a else ⟨a.block, a.off + l * k, none⟩)) (hh - l) (m - l)) else none
    | _, _, _, _ => none)
  | _, _ => none
  else none
inductive OptR (φ : Phi) : Option Value → Option Value → Prop
 | none : OptR φ none none
 | some {v v' : Value} (h : VR φ v v') : OptR φ (some v) (some v')
theorem bnd_same {x x' : Option Value} {d r : Nat} (hx : OptR φ x x') (hb : bnd x d = some r) : bnd x' d = some r := by
 cases hx with
 | none => exact hb
 | some h =>
  unfold bnd at hb
  split at hb
  · rename_i e; cases e
  · rename_i k j e; cases e; obtain rfl := h.int_inv; exact hb
  · cases hb
theorem OptR.isSome {x x' : Option Value} (hx : OptR φ x x') : x'.isSome = x.isSome := by cases hx <;> rfl
theorem sub_mul_le {c l k off n : Nat} (hl : l ≤ c) (hn : n ≤ off + c * k) : n ≤ off + l * k + (c - l) * k := by
 rw [Nat.sub_mul]
 have := Nat.mul_le_mul_right k hl
 omega
theorem sim_slice (r : R w0 φ h w) {T : TypeId} {x v x' : Value} {lo hi mx lo' hi' mx' : Option Value} (hs : aSlice P T x lo hi mx h = some v) (hx : VR φ x x') (hlo : OptR φ lo lo') (hhi : OptR φ hi hi') (hmx : OptR φ mx mx') :
   SimV w0 P φ h w (Instr.sliceAt T x' lo' hi' mx') v h := by
 unfold aSlice at hs
 split at hs
 · rename_i hmo
   have hmo' : mx'.isSome = true → hi'.isSome = true := by rw [hmx.isSome, hhi.isSome]; unfold mxOk at hmo; cases hmx' : mx.isSome <;> simp_all
   split at hs
   · rename_i el a len cap hu
     split at hs
     · cases hs
     · rename_i k hk
       split at hs
       · rename_i hcap
         subst hcap
         obtain ⟨a', c', i, rfl, hi0, hsp, he, hlc, hn, hz, ha⟩ := hx.sl_invO
         split at hs
         · cases hmx
           split at hs
           · rename_i hh l n op h1 h2 h3
             obtain ⟨hin, hie⟩ := r.opOf hi0 h3
             split at hs
             · rename_i hc
               cases hs
               obtain ⟨hc1, hc2, hc3⟩ := hc
               subst hc2
               have hhc : hh ≤ c' := by
                 rcases hc3 with hc3 | hc3
                 · omega
                 · rw [hin, hie] at hn
                   have : hh * op ≤ c' * op := by omega
                   exact Nat.le_of_mul_le_mul_right this (by rw [← hie]; exact he)
               have hb := run_bounds (P := P) (w := w) (isS := true) (cap := c') (m := c') (mx := none) rfl (bnd_same hhi h1) (bnd_same hlo h2) hc1 hhc (Nat.le_refl _) (by simp)
               refine .here r (v' := .slice (some (if c' = l then a' else a'.add (l * op))) (hh - l) (c' - l)) ?_ ?_
               · simp [Instr.sliceAt, Instr.slice, run_underlying hu, hb, rSz hk]
                 split <;> rfl
               · rw [← hie]
                 refine .opens (a := ⟨a.block, a.off + l * i.e, none⟩) i hi0 rfl he (by omega) (sub_mul_le (by omega) hn) ?_ (fun hp => ?_)
                 · show a.off + l * i.e + i.d + (c' - l) * i.e ≤ i.sz
                   rw [Nat.sub_mul]
                   have := Nat.mul_le_mul_right i.e (show l ≤ c' by omega)
                   omega
                 · rw [if_neg (by omega), ha (by omega), addEq]
                   congr 1
                   show a.off + i.d + l * i.e = a.off + l * i.e + i.d
                   omega
             · cases hs
           · cases hs
         · rename_i z
           split at hs
           · rename_i m hh l n op h0 h1 h2 h3
             obtain ⟨hin, hie⟩ := r.opOf hi0 h3
             split at hs
             · rename_i hc
               cases hs
               obtain ⟨hc1, hc2, hc3, hc4, hc5⟩ := hc
               subst hc3
               have hmc : m ≤ c' := by
                 rw [hin, hie] at hn
                 have : m * op ≤ c' * op := by omega
                 exact Nat.le_of_mul_le_mul_right this (by rw [← hie]; exact he)
               have h0' : bnd mx' c' = some m := by
                 cases hmx with
                 | some hv =>
                   unfold bnd at h0
                   split at h0
                   · rename_i e; cases e
                   · rename_i k j e; cases e; obtain rfl := hv.int_inv; exact h0
                   · cases h0
               have hb := run_bounds (P := P) (w := w) (isS := true) (cap := c') (m := m) h0' (bnd_same hhi h1) (bnd_same hlo h2) hc1 hc2 hmc hmo'
               refine .here r (v' := .slice (some (if m = l then a' else a'.add (l * op))) (hh - l) (m - l)) ?_ ?_
               · simp [Instr.sliceAt, Instr.slice, run_underlying hu, hb, rSz hk]
                 split <;> rfl
               · by_cases e : m = l
                 · subst e
                   rw [if_pos rfl, if_pos rfl, Nat.sub_self]; exact .slice0 _ _ _
                 · rw [if_neg e, if_neg e, ha (by omega), addEq, show a.off + i.d + l * op = a.off + l * op + i.d by omega]
                   exact .slice (a := ⟨a.block, a.off + l * op, none⟩) i hi0 rfl (by omega)
             · cases hs
           · cases hs
       · rename_i hcap
         split at hs
         · rename_i m hh l h0 h1 h2
           split at hs
           · rename_i hc
             cases hs
             obtain ⟨hc1, hc2, hc3, hc4⟩ := hc
             have hb := run_bounds (P := P) (w := w) (isS := true) (cap := cap) (m := m) (bnd_same hmx h0) (bnd_same hhi h1) (bnd_same hlo h2) hc1 hc2 hc3 hmo'
             by_cases h00 : cap = 0
             · subst h00
               obtain ⟨a', rfl⟩ := hx.sl_inv0
               have : m = l := by omega
               subst this
               refine .here r (v' := .slice (some a') (hh - m) (m - m)) ?_ ?_
               · simp [Instr.sliceAt, Instr.slice, run_underlying hu, hb, rSz hk]
               · rw [if_pos rfl, Nat.sub_self]; exact .slice0 _ _ _
             · obtain ⟨i, hi0, hsp, rfl⟩ := hx.sl_inv h00 hcap
               refine .here r (v' := .slice (some (if m = l then ⟨i.c, a.off + i.d, none⟩ else (⟨i.c, a.off + i.d, none⟩ : Addr).add (l * k))) (hh - l) (m - l)) ?_ ?_
               · simp [Instr.sliceAt, Instr.slice, run_underlying hu, hb, rSz hk]
                 split <;> rfl
               · by_cases e : m = l
                 · subst e
                   rw [if_pos rfl, if_pos rfl, Nat.sub_self]; exact .slice0 _ _ _
                 · rw [if_neg e, if_neg e, addEq, show a.off + i.d + l * k = a.off + l * k + i.d by omega]
                   exact .slice (a := ⟨a.block, a.off + l * k, none⟩) i hi0 rfl (by omega)
           · cases hs
         · cases hs
   · rename_i n el a hu
     split at hs
     · rename_i k m hh l hk h0 h1 h2
       split at hs
       · rename_i hc
         cases hs
         obtain ⟨hc1, hc2, hc3, hc4⟩ := hc
         obtain ⟨i, hi0, hsp, rfl⟩ := hx.ptr_inv
         have hb := run_bounds (P := P) (w := w) (isS := false) (cap := n) (m := m) (bnd_same hmx h0) (bnd_same hhi h1) (bnd_same hlo h2) hc1 hc2 hc3 hmo'
         refine .here r (v' := .slice (some (if m = l then ⟨i.c, a.off + i.d, none⟩ else (⟨i.c, a.off + i.d, none⟩ : Addr).add (l * k))) (hh - l) (m - l)) ?_ ?_
         · simp [Instr.sliceAt, Instr.sureAddr, run_underlying hu, hb, rSz hk]
         · by_cases e : m = l
           · subst e
             rw [if_pos rfl, if_pos rfl, Nat.sub_self]; exact .slice0 _ _ _
           · rw [if_neg e, if_neg e, addEq, show a.off + i.d + l * k = a.off + l * k + i.d by omega]
             exact .slice (a := ⟨a.block, a.off + l * k, none⟩) i hi0 rfl (by omega)
       · cases hs
     · cases hs
   · cases hs
 · cases hs
end
end Go.X
namespace Go.X
noncomputable section
open Go Go.RowKit
variable {w0 w w' : World} {φ φ' : Phi} {h h' : AH} {P : Program}
def aRow (l : List Value) (h : AH) (len cap : Nat) : Option (Value × AH) := match h.newc l with
 | some (b, h') => if cap < open_ then some (.slice (some ⟨b, 0, none⟩) len cap, h') else none
 | none => none
def zrep : Nat → List Value → List Value
 | 0, _ => []
 | n + 1, z => z ++ zrep n z
theorem zrep_len : ∀ (n : Nat) (z : List Value), (zrep n z).length = n * z.length
 | 0, z => by simp [zrep]
 | n + 1, z => by simp [zrep, zrep_len n z, Nat.succ_mul, Nat.add_comm]
theorem zrep_get : ∀ (n : Nat) (z : List Value) (j : Nat), j < n * z.length → (zrep n z)[j]? = z[j % z.length]?
 | 0, z, j, h => by simp at h
 | n + 1, z, j, h => by
  rw [Nat.succ_mul] at h
  rw [zrep]
  by_cases hj : j < z.length
  · rw [List.getElem?_append_left hj, Nat.mod_eq_of_lt hj]
  · rw [List.getElem?_append_right (by omega), zrep_get n z _ (by omega)]
    rw [Nat.mod_eq_sub_mod (a := j) (by omega)]
theorem zrep_rel {z : List Value} (hz : LR φ z z) : ∀ n, LR φ (zrep n z) (zrep n z)
 | 0 => .nil
 | n + 1 => hz.append (zrep_rel hz n)
theorem zarr {z : Value} {k n : Nat} (hk : n = k * (cellsL z).length) : (Array.range n).map (fun i => z.cells[i % z.cells.size]!) = ⟨zrep k (cellsL z)⟩ := by
 subst hk
 rw [cells_eq]
 apply Array.ext_getElem?
 intro j
 rw [Array.getElem?_map]
 by_cases hj : j < k * (cellsL z).length
 · rw [Array.getElem?_range, if_pos hj]
   have hpos : 0 < (cellsL z).length := by
    rcases Nat.eq_zero_or_pos (cellsL z).length with h0 | h0
    · rw [h0] at hj; omega
    · exact h0
   have hm : j % (cellsL z).length < (cellsL z).length := Nat.mod_lt _ hpos
   have := zrep_get k (cellsL z) j hj
   have e : (⟨zrep k (cellsL z)⟩ : Array Value)[j]? = (zrep k (cellsL z))[j]? := by simp
   rw [e, this, List.getElem?_eq_getElem hm]
   simp [hm]
 · rw [Array.getElem?_range, if_neg hj]
   have e : (⟨zrep k (cellsL z)⟩ : Array Value)[j]? = (zrep k (cellsL z))[j]? := by simp
   rw [e, List.getElem?_eq_none (by rw [zrep_len]; omega)]
   rfl
theorem zcells {z : Value} {n : Nat} : Builtin.zeroCells z.cells n = ⟨zrep n (cellsL z)⟩ := by
 unfold Builtin.zeroCells
 exact zarr (by rw [cells_eq]; simp)
def byOf (P : Program) (T : TypeId) : Option Nat := (P.info? T).map (·.bytes)
theorem rI' {T : TypeId} {k : Nat} (h : szOf P T = some k) : ∃ i, P.info? T = some i ∧ i.size = k := by
 unfold szOf at h
 exact Option.map_eq_some_iff.1 h
def aMakeSlice (P : Program) (T : TypeId) (len cap : Value) (h : AH) : Option (Value × AH) := match len, cap with
 | .int _ l, .int _ c => match P.underlying T with
  | some (.slice el) => (match szOf P el, byOf P el, zeroOf P el with
   | some k, some by_, some z => if 0 ≤ l ∧ l ≤ c ∧ c * (by_ + 1) < 1099511627776 ∧ (cellsL z).length = k then aRow (zrep c.toNat (cellsL z)) h l.toNat c.toNat else none
   | _, _, _ => none)
  | _ => none
 | _, _ => none
theorem wrap64 {c : Int} (h0 : 0 ≤ c) (h1 : c < 1099511627776) : IntKind.i64.wrap c = c := by
 rw [IntKind.wrap_i64]; omega
def aSrc (k : Nat) (x : Value) (h : AH) : Option (Nat × List Value) := match x with
 | .slice none l _ => if l = 0 then some (0, []) else none
 | .slice (some a) l c => if l = 0 then some (0, []) else if c = 0 then none else (match h.cells a 0 (l * k) with
  | some cs => some (l, cs)
  | none => none)
 | .string s => if k = 1 then some (s.size, s.data.toList.map fun b => .int .u8 b.toNat) else none
 | _ => none
theorem LR.refl_bytes (l : List UInt8) : LR φ (l.map fun b => Value.int .u8 b.toNat) (l.map fun b => Value.int .u8 b.toNat) := by
 induction l with
 | nil => exact .nil
 | cons x l ih => exact .cons (.int _ _) ih
theorem R.bind (r : R w0 φ h w) {i : Im} {o : AObj} (hc : i.c < w.heap.size) (hn : T.Ok (h.next)) (free : ∀ b j o', φ b = some j → h.m.get b = some o' → j.c ≠ i.c) (hl : w0.heap.size ≤ i.c)
   (hx : ∀ φ', Le φ φ' → OR φ' i w o) : ∃ φ', Nx φ φ' h ⟨h.m.set h.next (some o), h.next + 1⟩ ∧ φ' h.next = some i ∧ R w0 φ' ⟨h.m.set h.next (some o), h.next + 1⟩ w := by
 have le : Le φ (fun b => if b = h.next then some i else φ b) := by
   intro b j hj
   have := (r.lt b j hj).2
   show (if b = h.next then some i else φ b) = some j
   rw [if_neg (by omega)]; exact hj
 have hget : ∀ k, (h.m.set h.next (some o)).get k = if k = h.next then some o else h.m.get k := fun k => T.get_set k
 refine ⟨fun b => if b = h.next then some i else φ b, Nx.new le (fun b j hb => ?_) hn, if_pos rfl, ?_⟩
 · by_cases e : b = h.next
   · exact .inr e
   · exact .inl (by simpa [e] using hb)
 · refine ⟨fun k j o2 hj hk => ?_, fun k j o2 hj hk hr => ?_, fun k k' j j' o2 o3 hj hj' hk hk' hr hcc => ?_, fun k j hj => ?_, hn, r.below⟩
   · rw [hget] at hk
     by_cases e : k = h.next
     · subst e; rw [if_pos rfl] at hk; cases hk
       rw [if_pos rfl] at hj; cases hj
       exact hx _ le
     · rw [if_neg e] at hk hj
       exact (r.dom k j o2 hj hk).mono le
   · rw [hget] at hk
     by_cases e : k = h.next
     · subst e
       rw [if_pos rfl] at hj; cases hj
       exact hl
     · rw [if_neg e] at hk hj
       exact r.low k j o2 hj hk hr
   · rw [hget] at hk hk'
     by_cases e : k = h.next
     · by_cases e' : k' = h.next
       · rw [e, e']
       · subst e
         rw [if_pos rfl] at hj; cases hj
         rw [if_neg e'] at hj' hk'
         exact (free k' j' o3 hj' hk' hcc.symm).elim
     · by_cases e' : k' = h.next
       · subst e'
         rw [if_pos rfl] at hj'; cases hj'
         rw [if_neg e] at hj hk
         exact (free k j o2 hj hk hcc).elim
       · rw [if_neg e] at hk hj
         rw [if_neg e'] at hk' hj'
         exact r.inj k k' j j' o2 o3 hj hj' hk hk' hr hcc
   · by_cases e : k = h.next
     · subst e; rw [if_pos rfl] at hj; cases hj
       exact ⟨hc, Nat.lt_succ_self _⟩
     · rw [if_neg e] at hj
       have := r.lt k j hj
       exact ⟨this.1, by show k < h.next + 1; omega⟩
theorem R.allocW (r : R w0 φ h w) (x : Obj) : R w0 φ h (w.alloc x) :=
 ⟨fun b i o hi ho => (r.dom b i o hi ho).world (Below.heap_alloc w x _ (r.lt b i hi).1), r.low, r.inj, fun b i hi => ⟨by have := (r.lt b i hi).1; simp; omega, (r.lt b i hi).2⟩, r.nx, r.below.alloc r.below.size x⟩
theorem R.setFree (r : R w0 φ h w) {g : Nat} {cs : Array Value} (free : ∀ b j o', φ b = some j → h.m.get b = some o' → j.c ≠ g) (hl : w0.heap.size ≤ g) : R w0 φ h (w.setRow g cs) := by
 have hsz : (w.setRow g cs).heap.size = w.heap.size := by simp [World.setRow]
 exact ⟨fun b i o hi ho => (r.dom b i o hi ho).world (setRow_other w g _ cs (free b i o hi ho)), r.low, r.inj, fun b i hi => by rw [hsz]; exact r.lt b i hi, r.nx,
  r.below.trans ⟨rfl, rfl, rfl, by rw [hsz]; exact Nat.le_refl _, fun k hk => setRow_other w g k cs (by omega)⟩⟩
def mkO (tag : Option TypeId) (c : T Value) (n k : Nat) : AObj := match tag with
 | none => .cells c n k false
 | some ty => .tcells ty c n k
def AH.newo (h : AH) (l : List Value) (k : Nat) (tag : Option TypeId := none) : Option (Nat × AH) :=
 if decide (0 < k) then some (h.next, ⟨h.m.set h.next (some (mkO tag (T.fill l 0 .e) l.length k)), h.next + 1⟩) else none
def tyAt (h : AH) (b : Nat) : Option TypeId := match h.m.get b with
 | some (.tcells ty _ _ _) => some ty
 | _ => none
theorem R.row (r : R w0 φ h w) {b nn k : Nat} {i : Im} (hi : φ b = some i) (hop : X.opOf h b = some (nn, k)) :
   ∃ arr el o, h.m.get b = some o ∧ o.ro = false ∧ w.heap[i.c]? = some (.cells arr el (0, 0)) ∧ arr.size = i.sz ∧ ∀ ty, tyAt h b = some ty → el = ty ∧ i.d = 0 := by
 unfold X.opOf at hop
 split at hop
 · rename_i c n' op' hg
   obtain ⟨_, _, _, arr, el', ⟨fz, hw, hro, _⟩, hsz, _, _⟩ := r.dom _ _ _ hi hg
   cases hro rfl
   refine ⟨arr, el', _, hg, rfl, hw, hsz, fun ty ht => ?_⟩
   unfold tyAt at ht
   rw [hg] at ht; cases ht
 · rename_i ty0 c n' op' hg
   obtain ⟨_, _, h3, arr, h4, h5, _⟩ := r.dom _ _ _ hi hg
   refine ⟨arr, ty0, _, hg, rfl, h4, h5, fun ty ht => ?_⟩
   unfold tyAt at ht
   rw [hg] at ht; cases ht
   exact ⟨rfl, h3⟩
 · cases hop
theorem R.newo (r : R w0 φ h w) {l l' : List Value} {k b sz d g : Nat} {tag : Option TypeId} (hs : h.newo l k tag = some (b, h')) (hl : LR φ l l') {arr : Array Value} {el : TypeId} (hg : w.heap[g]? = some (.cells arr el (0, 0))) (hsz : arr.size = sz)
   (hle : l.length + d ≤ sz) (hat : ∀ j v, l'[j]? = some v → arr[j + d]? = some v) (free : ∀ b j o', φ b = some j → h.m.get b = some o' → j.c ≠ g) (hlow : w0.heap.size ≤ g) (htag : ∀ ty, tag = some ty → el = ty ∧ d = 0) :
   ∃ φ', Nx φ φ' h h' ∧ φ' b = some ⟨g, d, l.length, sz, k⟩ ∧ R w0 φ' h' w := by
 unfold AH.newo at hs
 split at hs
 · rename_i hb
   cases hs
   have cl : ∀ φ', Le φ φ' → ∀ j, j < l.length → ∃ v v', (T.fill l 0 .e).get j = some v ∧ arr[j + d]? = some v' ∧ VR φ' v v' := by
    intro φ' le j hj
    obtain ⟨v', h1, h2⟩ := hl.get (List.getElem?_eq_getElem hj)
    refine ⟨l[j], v', ?_, hat j v' h1, h2.mono le⟩
    rw [T.get_fill, if_pos (by omega)]
    simp [hj]
   cases tag with
   | none =>
    refine r.bind (i := ⟨g, d, l.length, sz, k⟩) (Array.getElem?_eq_some_iff.1 hg).1 trivial free hlow (fun φ' le => ?_)
    exact ⟨rfl, rfl, trivial, arr, el, ⟨(0, 0), hg, fun _ => rfl, fun j _ => by simp [World.frozen?, hg]⟩, hsz, hle, cl φ' le⟩
   | some ty =>
    obtain ⟨e1, e2⟩ := htag ty rfl
    subst e1 e2
    refine r.bind (i := ⟨g, 0, l.length, sz, k⟩) (Array.getElem?_eq_some_iff.1 hg).1 trivial free hlow (fun φ' le => ?_)
    have hb : 0 < k := of_decide_eq_true hb
    exact ⟨rfl, rfl, rfl, arr, hg, hsz, ⟨hle, fun e => by omega⟩, cl φ' le⟩
 · cases hs
theorem newo_pos {l : List Value} {k b : Nat} {tag : Option TypeId} (hs : h.newo l k tag = some (b, h')) : 0 < k := by
 unfold AH.newo at hs
 split at hs
 · rename_i hb; exact of_decide_eq_true hb
 · cases hs
theorem Nx.drop {b : Nat} {i : Im} (hi : φ b = some i) (hb : T.Ok (b)) : Nx φ φ h { h with m := h.m.set b none } :=
 ⟨Le.refl φ, Nat.le_refl _, fun k hk _ => ⟨hk, by
  show (h.m.set b none).get k = _
  rw [T.get_set, if_neg (fun e => by subst e; rw [hi] at hk; cases hk)]⟩⟩
def tagOf (tg : Option TypeId) (h : AH) (a : Addr) : Option TypeId := match tg with
 | none => none
 | some el => (match tyAt h a.block with
  | some ty => (match Nat.beq ty el && Nat.beq a.off 0 with
   | true => some el
   | false => none)
  | none => none)
def aAppendTo (k : Nat) (s : Value) (n : Nat) (new : List Value) (h : AH) (tg : Option TypeId := none) : Option (Value × AH) := match s with
  | .slice none l c => if l = 0 ∧ c = 0 then (if n = 0 then some (.slice none 0 0, h) else (match h.newo new k tg with
      | some (b, h') => some (.slice (some ⟨b, 0, none⟩) n open_, h')
      | none => none)) else none
  | .slice (some a) l c =>
    if c = open_ then (match opOf h a.block with
      | some (nn, op) => if op = k then (if a.off + (l + n) * k ≤ nn then (match h.setcs a (l * k) new with
          | some h' => some (.slice (some a) (l + n) c, h')
          | none => none)
        else (match h.cells a 0 (l * k) with
          | some old => (match ({ h with m := h.m.set a.block none } : AH).newo (old ++ new) k (tagOf tg h a) with
            | some (b, h') => some (.slice (some ⟨b, 0, none⟩) (l + n) open_, h')
            | none => none)
          | none => none)) else none
      | none => none)
    else if l + n ≤ c then (if n = 0 then some (s, h) else match h.setcs a (l * k) new with
          | some h' => some (.slice (some a) (l + n) c, h')
          | none => none)
    else (match (if l = 0 then some [] else if c = 0 then none else h.cells a 0 (l * k)) with
      | some old => (match h.newo (old ++ new) k tg with
        | some (b, h') => some (.slice (some ⟨b, 0, none⟩) (l + n) open_, h')
        | none => none)
      | none => none)
  | _ => none
def appTo (k : Nat) (el : TypeId) (by_ : Nat) (zero : Array Value) (base : Option Addr) (l c n : Nat) (new : List Value) : Sem Value := do
 if l + n ≤ c then
  if let some a := base then storeCells (a.add (l * k)) new
  pure (.slice base (l + n) c)
 else
  let newCap ← choose (.appendCap (l + n) c el)
  askRoom (newCap * by_)
  let old ← Builtin.firstCells k l (.slice base l c)
  pure (.slice (some (← newRow el (old ++ ⟨new⟩ ++ Builtin.zeroCells zero (newCap - (l + n))))) (l + n) newCap)
theorem cut_ge (w : World) (need old : Nat) (e : TypeId) : need ≤ (Question.appendCap need old e).cut (w.tape w.drawn (.appendCap need old e)) := grownCap_ge w need old e
theorem run_askRoom (n : Nat) (w : World) : (askRoom n).run P w = .ok () w := by
 unfold askRoom
 split
 · simp [mark, Sem.run]
 · rfl
theorem sim_grow (r : R w0 φ h w) {k l c n b : Nat} {el : TypeId} {by_ : Nat} {zero : Value} {base : Option Addr} {old old' new new' : List Value} {tag : Option TypeId} (htag : ∀ ty, tag = some ty → el = ty) (hz : (cellsL zero).length = k) (hc : c < l + n)
   (hs : h.newo (old ++ new) k tag = some (b, h')) (hold : ∀ w1 : World, w1.heap = w.heap → (Builtin.firstCells k l (.slice base l c)).run P w1 = .ok ⟨old'⟩ w1) (ho : LR φ old old') (hn : LR φ new new')
   (hlen : (old ++ new).length = (l + n) * k) : SimV w0 P φ h w (appTo k el by_ zero.cells base l c n new') (.slice (some ⟨b, 0, none⟩) (l + n) open_) h' := by
 let cap := (Question.appendCap (l + n) c el).cut (w.tape w.drawn (.appendCap (l + n) c el))
 have hcap : l + n ≤ cap := cut_ge w _ _ _
 have hpos := newo_pos hs
 have hlen' : (old' ++ new').length = (l + n) * k := by rw [← hlen]; exact (ho.append hn).length.symm
 let arr : Array Value := (⟨old'⟩ ++ ⟨new'⟩ ++ Builtin.zeroCells zero.cells (cap - (l + n)))
 have harr : arr = ⟨old' ++ new' ++ zrep (cap - (l + n)) (cellsL zero)⟩ := by
   show (⟨old'⟩ ++ ⟨new'⟩ ++ Builtin.zeroCells zero.cells (cap - (l + n)) : Array Value) = _
   rw [zcells]
   apply Array.ext'
   simp
 have hsize : arr.size = cap * k := by
   rw [harr]
   simp only [List.size_toArray, List.length_append] at hlen' ⊢
   rw [hlen', zrep_len, hz, ← Nat.add_mul]
   congr 1; omega
 have r1 : R w0 φ h (w.drew.alloc (.cells arr el (0, 0))) := r.drew.allocW _
 have hw : w.drew.heap = w.heap := rfl
 have hg : (w.drew.alloc (.cells arr el (0, 0))).heap[w.heap.size]? = some (.cells arr el (0, 0)) := by
   show (w.drew.heap.push _)[w.heap.size]? = _
   rw [hw]; simp
 have hle : (l + n) * k ≤ cap * k := Nat.mul_le_mul_right _ hcap
 obtain ⟨φ', nx, hb, r'⟩ := r1.newo (sz := cap * k) (d := 0) hs (ho.append hn) hg hsize (by rw [hlen]; omega)
   (fun j v hj => by
     rw [harr]
     have := (List.getElem?_eq_some_iff.1 hj).1
     simp only [Nat.add_zero]
     rw [List.getElem?_toArray]
     rw [List.getElem?_append_left this]; exact hj)
   (fun b j o' hb _ => by have := (r.lt b j hb).1; omega) r.below.size (fun ty ht => ⟨htag ty ht, rfl⟩)
 refine ⟨.slice (some ⟨w.heap.size, 0, none⟩) (l + n) cap, w.drew.alloc (.cells arr el (0, 0)), φ', ?_, nx, r', ?_⟩
 · unfold appTo
   rw [if_neg (by omega)]
   simp only [Sem.run_bind, run_choose_drew]
   have hf : (Question.appendCap (l + n) c el).forced = false := rfl
   rw [hf]
   simp only [Bool.false_eq_true, if_false, Result.andThen_ok, run_askRoom, hold w.drew rfl, newRow, Sem.run_bind, run_newObj_alloc, Sem.run_pure]
   rfl
 · refine .opens (a := ⟨b, 0, none⟩) (c' := cap) ⟨w.heap.size, 0, (old ++ new).length, cap * k, k⟩ hb rfl hpos hcap ?_ ?_ (fun _ => rfl)
   · show (old ++ new).length ≤ 0 + cap * k
     rw [hlen]; omega
   · show 0 + 0 + cap * k ≤ cap * k
     omega
end
end Go.X
