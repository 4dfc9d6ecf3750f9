/- The closed evaluator, part I: code, loops, ranges over functions, calls. -/
import Derived.Test.YtdaedcoolcicoaaXQ
namespace Go.X
noncomputable section
open Go Go.RowKit
variable {w0 w w' : World} {φ φ' : Phi} {h h' : AH} {P : Program} {n : Nat} {t : T Value}

inductive Ex where
  | normal
  | exit (id : Nat)
  | ret
inductive ExR : Ex → Exit → Prop
  | normal : ExR .normal .normal
  | exit (id : Nat) : ExR (.exit id) (.exit id)
  | ret : ExR .ret .ret
structure Out where
  ex : Ex
  t : T Value
  ds : List Nat
  h : AH
abbrev COuts := Option (List Out)
/-- Deferred marks. -/
inductive DR (φ : Phi) : List Nat → List Deferred → Prop
  | nil : DR φ [] []
  | cons {b : Nat} {i : Im} {l : List Nat} {l' : List Deferred} (hb : φ b = some i) (t : DR φ l l') : DR φ (b :: l) (⟨.collected i.c, #[]⟩ :: l')
theorem DR.mono (le : Le φ φ') {l : List Nat} {l' : List Deferred} (d : DR φ l l') : DR φ' l l' := by
  induction d with
  | nil => exact .nil
  | cons hb _ ih => exact .cons (le _ _ hb) ih
/-- What holds where code is left. -/
def Post (w0 : World) (φ : Phi) (h : AH) (n : Nat) (l : List Out) : Exit → Act → World → Prop := fun e a w =>
  ∃ o, o ∈ l ∧ ExR o.ex e ∧ ∃ φ', Nx φ φ' h o.h ∧ R w0 φ' o.h w ∧ FR φ' n o.t a.tmps ∧ DR φ' o.ds a.defers
theorem Post.sub {l l' : List Out} {e : Exit} {a : Act} (hs : ∀ o, o ∈ l → o ∈ l') (p : Post w0 φ h n l e a w) : Post w0 φ h n l' e a w := by
  obtain ⟨o, h1, r⟩ := p; exact ⟨o, hs o h1, r⟩
theorem Post.from {h0 : AH} {φ0 : Phi} {l : List Out} {e : Exit} {a : Act} (nx : Nx φ0 φ h0 h) (p : Post w0 φ h n l e a w) : Post w0 φ0 h0 n l e a w := by
  obtain ⟨o, h1, h2, φ', h3, r⟩ := p; exact ⟨o, h1, h2, φ', nx.trans h3, r⟩

/-- The loop whose round a frame is of. -/
def RoR (φ : Phi) : Option Nat → Option Nat → Prop
  | none, q => q = none
  | some b, q => ∃ i, φ b = some i ∧ q = some i.c
theorem RoR.mono (le : Le φ φ') {ro q : Option Nat} (x : RoR φ ro q) : RoR φ' ro q := by
  cases ro with
  | none => exact x
  | some b => obtain ⟨i, h1, h2⟩ := x; exact ⟨i, le _ _ h1, h2⟩

abbrev Ev := T Value → List Nat → AH → COuts
def thenX (y : Ev) (o : Out) : COuts := Ex.rec (motive := fun _ => COuts) (y o.t o.ds o.h) (fun _ => some [o]) (some [o]) o.ex
def cThen (x y : Ev) : Ev := fun t ds h => bindL (x t ds h) (thenX y)
def aLoop (body : T Value → List Nat → AH → COuts) (k : Nat) : T Value → List Nat → AH → COuts := Nat.rec (motive := fun _ => Ev) (fun _ _ _ => none) (fun _ ih => cThen body ih) k
theorem thenX_eq (y : Ev) (o : Out) : thenX y o = match o.ex with
    | .normal => y o.t o.ds o.h
    | _ => some [o] := by
  unfold thenX; cases o.ex <;> rfl
theorem aLoop_zero (body : Ev) (t : T Value) (ds : List Nat) (h : AH) : aLoop body 0 t ds h = none := rfl
theorem aLoop_succ (body : Ev) (k : Nat) (t : T Value) (ds : List Nat) (h : AH) : aLoop body (k + 1) t ds h = bindL (body t ds h) fun o => match o.ex with
    | .normal => aLoop body k o.t o.ds o.h
    | _ => some [o] := by
  show bindL (body t ds h) (thenX (aLoop body k)) = _
  congr 1; funext o; exact thenX_eq _ o
def exCode : Option Code → Option Ex
  | none => some .normal
  | some .ret => some .ret
  | some (.exit id) => some (.exit id)
  | _ => none
/-- The value of yield at a loop. -/
def yv (b : Nat) : Value := .func (.yield b) ⟨[]⟩ ⟨[]⟩
/-- Entering a range over a function: the blocks that are laid. -/
def aEnter (n : Nat) (ro : Option Nat) (t : T Value) (ps : List Tmp) (asg body : Code) (h : AH) : Option (Nat × List Nat × AH) := match ro with
  | some _ => none
  | none => (match h.newObj .dfr with
    | some (d, h1) => (match h1.newObj (.loop .ready none t n ps asg body) with
      | some (l, h2) => some (l, [d], h2)
      | none => none)
    | none => none)
theorem beq_nat {β : Type} (a b : Nat) (x y : β) : (Bool.rec (motive := fun _ => β) y x (Nat.beq a b) : β) = if a = b then x else y := T.beq_ite a b x y
def aCode0 (P : Program) (call : Call1) (n LF : Nat) (ro : Option Nat) : Code → T Value → List Nat → AH → COuts
  | .skip, t, ds, h => some [⟨.normal, t, ds, h⟩]
  | .label _, t, ds, h => some [⟨.normal, t, ds, h⟩]
  | .ret, t, ds, h => some [⟨.ret, t, ds, h⟩]
  | .exit id, t, ds, h => some [⟨.exit id, t, ds, h⟩]
  | .seq x y, t, ds, h => bindL (aCode0 P call n LF ro x t ds h) fun o => match o.ex with
    | .normal => aCode0 P call n LF ro y o.t o.ds o.h
    | _ => some [o]
  | .cond c x y, t, ds, h => match aO n t c with
    | some (.bool q) => if q then aCode0 P call n LF ro x t ds h else aCode0 P call n LF ro y t ds h
    | _ => none
  | .block id c, t, ds, h => bindL (aCode0 P call n LF ro c t ds h) fun o => match o.ex with
    | .exit k => if k = id then some [{ o with ex := .normal }] else some [o]
    | _ => some [o]
  | .loop c, t, ds, h => aLoop (aCode0 P call n LF ro c) LF t ds h
  | .region _ ops draw, t, ds, h => bindL (if draw then aDraw P call n ops t h else aOps P call n ops ops.toList t h) fun p => some [⟨.normal, p.1, ds, p.2⟩]
  | .rangeFunc f ⟨ps⟩ asg body, t, ds, h => match aO n t f with
    | some (.func (.func g) ⟨first⟩ ⟨cap⟩) => (match aEnter n ro t ps asg body h with
      | some (l, ms, h2) => (match aCallF P g (first ++ [yv l] ++ cap) h2 with
        | some [(an, h3)] => bindL (call an h3) fun p => (match p.2.m.get l with
          | some (.loop st pend ts sz ps' asg' body') => (match st, exCode pend with
            | .busy, _ => none
            | _, some ex => some [⟨ex, t, ms ++ ds, { p.2 with m := p.2.m.set l (some (.loop .exhausted pend ts sz ps' asg' body')) }⟩]
            | _, none => none)
          | _ => none)
        | _ => none)
      | none => none)
    | _ => none
  | _, _, _, _ => none

def cCond (n : Nat) (c : Operand) (x y : Ev) : Ev := fun t ds h => match aO n t c with
    | some (.bool q) => Bool.rec (motive := fun _ => COuts) (y t ds h) (x t ds h) q
    | _ => none
def outX (id : Nat) (o : Out) : COuts := match o.ex with
    | .exit k => Bool.rec (motive := fun _ => COuts) (some [o]) (some [{ o with ex := .normal }]) (Nat.beq k id)
    | _ => some [o]
def cBlock (id : Nat) (x : Ev) : Ev := fun t ds h => bindL (x t ds h) (outX id)
def cRegion (P : Program) (call : Call1) (n : Nat) (ops : Array Oper) (draw : Bool) : Ev := fun t ds h => bindL (Bool.rec (motive := fun _ => Option (List (T Value × AH))) (aOps P call n ops ops.toList t h) (aDraw P call n ops t h) draw) fun p => some [⟨.normal, p.1, ds, p.2⟩]
def aCode (P : Program) (call : Call1) (n LF : Nat) (ro : Option Nat) (c : Code) : Ev := Code.rec (motive := fun _ => Ev)
  (fun t ds h => some [⟨.normal, t, ds, h⟩])
  (fun _ ops draw => cRegion P call n ops draw)
  (fun _ _ x y => cThen x y)
  (fun c _ _ x y => cCond n c x y)
  (fun id _ x => cBlock id x)
  (fun _ x => aLoop x LF)
  (fun f ps asg body _ _ => aCode0 P call n LF ro (.rangeFunc f ps asg body))
  (fun id t ds h => some [⟨.exit id, t, ds, h⟩])
  (fun _ _ _ _ _ => none)
  (fun _ t ds h => some [⟨.normal, t, ds, h⟩])
  (fun _ _ _ _ => none)
  (fun t ds h => some [⟨.ret, t, ds, h⟩])
  (fun _ _ _ _ => none) c
theorem aCode_eq (P : Program) (call : Call1) (n LF : Nat) (ro : Option Nat) : ∀ (c : Code), aCode P call n LF ro c = aCode0 P call n LF ro c
  | .skip => rfl
  | .region _ ops draw => by
    funext t ds h
    show cRegion P call n ops draw t ds h = _
    simp only [aCode0, cRegion]
    cases draw <;> rfl
  | .seq x y => by
    funext t ds h
    show cThen (aCode P call n LF ro x) (aCode P call n LF ro y) t ds h = _
    rw [aCode_eq P call n LF ro x, aCode_eq P call n LF ro y]
    simp only [aCode0, cThen]
    congr 1; funext o; exact thenX_eq _ o
  | .cond c x y => by
    funext t ds h
    show cCond n c (aCode P call n LF ro x) (aCode P call n LF ro y) t ds h = _
    rw [aCode_eq P call n LF ro x, aCode_eq P call n LF ro y]
    simp only [aCode0, cCond]
    split
    · rename_i q _; cases q <;> rfl
    · rfl
  | .block id x => by
    funext t ds h
    show cBlock id (aCode P call n LF ro x) t ds h = _
    rw [aCode_eq P call n LF ro x]
    simp only [aCode0, cBlock]
    congr 1; funext o
    unfold outX
    split
    · rename_i k _; rw [beq_nat]
    · rfl
  | .loop x => by
    show aLoop (aCode P call n LF ro x) LF = _
    rw [aCode_eq P call n LF ro x]
    funext t ds h
    simp only [aCode0]
  | .rangeFunc f ps asg body => rfl
  | .exit _ => rfl
  | .scope _ => by funext t ds h; simp only [aCode0]; rfl
  | .label _ => rfl
  | .goto _ => by funext t ds h; simp only [aCode0]; rfl
  | .ret => rfl
  | .refuse _ => by funext t ds h; simp only [aCode0]; rfl

/-- A loop, by fuel. -/
theorem wpIn_fuel {F : Fence} {m : Nat} {c : Code} {Q : Exit → Act → World → Prop} (J : Nat → Act → World → Prop) (k : Nat) {a : Act} {w : World} (h0 : J k a w)
    (round : ∀ k a w, J k a w → c.wpIn F m P (Exit.then (fun a' w' => ∃ k', k' < k ∧ J k' a' w') Q) a w) : (Code.loop c).wpIn F m P Q a w := by
  classical
  have least : ∀ {p : Nat → Prop}, (∃ m, p m) → ∃ m, p m ∧ ∀ k, p k → m ≤ k := by
    intro p hx
    obtain ⟨m, hm⟩ := hx
    induction m using Nat.strongRecOn with
    | _ m ih =>
      by_cases hx : ∃ k, k < m ∧ p k
      · obtain ⟨k, hk, hp⟩ := hx; exact ih k hk hp
      · exact ⟨m, hm, fun k hp => by
          rcases Nat.lt_or_ge k m with h | h
          · exact (hx ⟨k, h, hp⟩).elim
          · exact h⟩
  let I : Act → World → Prop := fun a w => ∃ m, J m a w
  let μ : Act → World → Nat := fun a w => if h : ∃ m, J m a w then Classical.choose (least h) else 0
  have hμ : ∀ a w (h : I a w), J (μ a w) a w ∧ ∀ k, J k a w → μ a w ≤ k := by
    intro a w h
    have e : μ a w = Classical.choose (least h) := dif_pos h
    rw [e]; exact Classical.choose_spec (least h)
  refine wpIn_loop I μ ⟨k, h0⟩ ?_
  intro a w hI
  obtain ⟨hJ, _⟩ := hμ a w hI
  refine wpIn_mono (round _ a w hJ) ?_
  intro e a' w' q
  cases e with
  | normal =>
    obtain ⟨m', hlt, hJ'⟩ := q
    exact ⟨⟨m', hJ'⟩, Nat.lt_of_le_of_lt ((hμ a' w' ⟨m', hJ'⟩).2 m' hJ') hlt⟩
  | _ => exact q

/-- What is asked of the evaluation of a code. -/
def CodeOk (w0 : World) (P : Program) (n : Nat) (ro : Option Nat) (c : Code) (ev : T Value → List Nat → AH → COuts) : Prop :=
  ∀ ⦃t : T Value⦄ ⦃ds : List Nat⦄ ⦃h : AH⦄ ⦃l : List Out⦄ ⦃φ : Phi⦄ ⦃a : Act⦄ ⦃w : World⦄ ⦃q : Option Nat⦄ (m : Nat), ev t ds h = some l → R w0 φ h w → FR φ n t a.tmps → DR φ ds a.defers → RoR φ ro q →
    c.wpIn (FW q) m P (Post w0 φ h n l) a w
theorem loop_ok {ro : Option Nat} {c : Code} {ev : T Value → List Nat → AH → COuts} (hc : CodeOk w0 P n ro c ev) (LF : Nat) : CodeOk w0 P n ro (.loop c) (aLoop ev LF) := by
  intro t ds h l φ a w q m hs hr hf hd hq
  refine wpIn_fuel (fun k a w => ∃ t ds h' l' φ', aLoop ev k t ds h' = some l' ∧ (∀ o, o ∈ l' → o ∈ l) ∧ Nx φ φ' h h' ∧ R w0 φ' h' w ∧ FR φ' n t a.tmps ∧ DR φ' ds a.defers) LF
    ⟨t, ds, h, l, φ, hs, fun o ho => ho, .refl φ h, hr, hf, hd⟩ ?_
  rintro k a w ⟨t, ds, h1, l1, φ1, hs1, hsub, nx1, r1, f1, d1⟩
  cases k with
  | zero => simp [aLoop_zero] at hs1
  | succ k =>
    simp only [aLoop_succ] at hs1
    obtain ⟨l2, h2, hall⟩ := bindL_spec hs1
    refine wpIn_mono (hc m h2 r1 f1 d1 (hq.mono nx1.le)) ?_
    rintro e a' w' ⟨o, ho, hex, φ2, nx2, r2, f2, d2⟩
    obtain ⟨k2, hk, hsub2⟩ := hall o ho
    obtain ⟨ex, t', ds', h'⟩ := o
    cases hex with
    | normal => exact ⟨k, Nat.lt_succ_self k, t', ds', h', k2, φ2, hk, fun o ho => hsub o (hsub2 o ho), nx1.trans nx2, r2, f2, d2⟩
    | exit id =>
      cases hk
      exact ⟨_, hsub _ (hsub2 _ (List.mem_singleton.2 rfl)), .exit id, φ2, nx1.trans nx2, r2, f2, d2⟩
    | ret =>
      cases hk
      exact ⟨_, hsub _ (hsub2 _ (List.mem_singleton.2 rfl)), .ret, φ2, nx1.trans nx2, r2, f2, d2⟩
end
end Go.X
