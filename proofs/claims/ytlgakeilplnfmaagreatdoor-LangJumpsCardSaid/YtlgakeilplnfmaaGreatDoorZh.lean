/- Rules for symbolic runs. -/
import Derived.Test.YtlgakeilplnfmaaGreatDoorZg
namespace Go.X
noncomputable section
open Go Go.RowKit
variable {P : Program} {n : Nat}
def Sub {α : Type} (x y : Option α) : Prop := ∀ a, x = some a → y = some a
theorem Sub.refl {α : Type} (x : Option α) : Sub x x := fun _ h => h
theorem Sub.none {α : Type} (x : Option α) : Sub none x := fun _ h => by cases h
theorem sub_joinL {β : Type} {x x' y y' : Option (List β)} (hx : Sub x x') (hy : Sub y y') : Sub (joinL x y) (joinL x' y') := by
 intro l h
 cases x with
 | none => cases h
 | some m => cases y with
  | none => cases h
  | some k => rw [hx m rfl, hy k rfl]; exact h
theorem sub_go {α β : Type} {f f' : α → Option (List β)} : ∀ (l : List α), (∀ a, a ∈ l → Sub (f a) (f' a)) → Sub (bindL.go f l) (bindL.go f' l)
 | [], _ => Sub.refl _
 | [a], hf => hf a (List.mem_singleton.2 rfl)
 | a :: b :: l, hf => by
  have ih := sub_go (b :: l) (fun c hc => hf c (List.mem_cons_of_mem _ hc))
  exact sub_joinL (hf a (by simp)) ih
theorem sub_bindL {α β : Type} {x x' : Option (List α)} {f f' : α → Option (List β)} (hx : Sub x x') (hf : ∀ a, Sub (f a) (f' a)) : Sub (bindL x f) (bindL x' f') := by
 intro m h
 cases x with
 | none => cases h
 | some l => rw [hx l rfl]; exact sub_go l (fun a _ => hf a) m h
abbrev SubC (c c' : Call1) : Prop := ∀ an h, Sub (c an h) (c' an h)
theorem sub_aStep {c c' : Call1} (hc : SubC c c') (t : T Value) (h : AH) (o : Op) : Sub (aStep P c n t h o) (aStep P c' n t h o) := by
 refine sub_bindL (Sub.refl _) fun p => ?_
 obtain ⟨an, h'⟩ := p
 cases an with
 | val v => exact Sub.refl _
 | skip => exact Sub.refl _
 | enter f args => exact hc _ _
 | round b ts sz asg body => exact hc _ _
theorem sub_aOps {c c' : Call1} (hc : SubC c c') (ops : Array Oper) : ∀ (l : List Oper) (t : T Value) (h : AH), Sub (aOps P c n ops l t h) (aOps P c' n ops l t h)
 | [], t, h => Sub.refl _
 | o :: l, t, h => by
  have ih := sub_aOps hc ops l
  show Sub (opsStep P c n ops o (aOps P c n ops l) t h) (opsStep P c' n ops o (aOps P c' n ops l) t h)
  unfold opsStep
  cases aWant n t ops o with
  | true =>
   refine sub_bindL (sub_aStep hc t h o.op) fun p => ?_
   cases aPut n t o.dst p.1 with
   | none => exact Sub.refl _
   | some t' => exact ih t' p.2
  | false =>
   dsimp only
   cases aPut n t o.dst undef with
   | none => exact Sub.refl _
   | some t' => exact ih t' h
theorem sub_aCont {c c' : Call1} (hc : SubC c c') {ops : Array Oper} {ls ms : List Nat} {rec rec' : Nat → List Nat → T Value → AH → Option (List (T Value × AH))} (hr : ∀ L s t h, Sub (rec L s t h) (rec' L s t h)) (L : Nat) (seen : List Nat) (t : T Value) (h : AH) :
   Sub (aCont P c n ops ls ms rec L seen t h) (aCont P c' n ops ls ms rec' L seen t h) := by
 unfold aCont
 split
 · exact Sub.refl _
 · split
   · exact Sub.refl _
   · rename_i o _
     split
     · refine sub_bindL (sub_aStep hc t h o.op) fun p => ?_
       cases aPut n t o.dst p.1 with
       | none => exact Sub.refl _
       | some t2 => exact hr _ _ _ _
     · cases aPut n t o.dst undef with
       | none => exact Sub.refl _
       | some t2 => exact hr _ _ _ _
theorem sub_aLv {c c' : Call1} (hc : SubC c c') {ops : Array Oper} {ls ms : List Nat} : ∀ (k L : Nat) (seen : List Nat) (t : T Value) (h : AH), Sub (aLv P c n ops ls ms k L seen t h) (aLv P c' n ops ls ms k L seen t h)
 | 0, _, _, _, _ => Sub.refl _
 | k + 1, L, seen, t, h => by
  simp only [aLv]
  split
  · exact Sub.refl _
  · split
    · exact sub_aCont hc (sub_aLv hc k) _ _ _ _
    · exact Sub.refl _
theorem sub_allL {α β : Type} {f f' : α → Option (List β)} (hf : ∀ a, Sub (f a) (f' a)) : ∀ (l : List α), Sub (allL f l) (allL f' l)
 | [] => Sub.refl _
 | a :: l => by
  intro m h
  unfold allL at h ⊢
  split at h
  · rename_i x y hx hy
    rw [hf a x hx, sub_allL hf l y hy]
    exact h
  · cases h
theorem sub_aAll {c c' : Call1} (hc : SubC c c') (ops : Array Oper) : ∀ (k : Nat) (left : List Nat) (t : T Value) (h : AH), Sub (aAll P c n ops k left t h) (aAll P c' n ops k left t h)
 | 0, [], _, _ => Sub.refl _
 | 0, _ :: _, _, _ => Sub.refl _
 | k + 1, [], _, _ => Sub.refl _
 | k + 1, i :: r, t, h => by
  unfold aAll
  split
  · exact Sub.refl _
  · refine sub_allL (fun j => ?_) _
    split
    · split
      · refine sub_bindL (sub_aStep hc _ _ _) fun p => ?_
        split
        · exact sub_aAll hc ops k _ _ _
        · exact Sub.refl _
      · split
        · exact sub_aAll hc ops k _ _ _
        · exact Sub.refl _
    · exact Sub.refl _
theorem sub_fLv {c c' : Call1} (hc : SubC c c') {ops : Array Oper} {ls ms : List Nat} {fk fk' : Fk} (hf : ∀ L t h, Sub (fk L t h) (fk' L t h)) : ∀ (k L : Nat) (seen : List Nat) (t : T Value) (h : AH), Sub (fLv P c n ops ls ms fk k L seen t h) (fLv P c' n ops ls ms fk' k L seen t h)
 | 0, _, _, _, _ => Sub.refl _
 | k + 1, L, seen, t, h => by
  simp only [fLv]
  split
  · exact Sub.refl _
  · split
    · intro m hm
      split at hm
      · rename_i o lo h1 h2
        rw [hf _ _ _ _ h1, sub_aCont hc (sub_fLv hc hf k) _ _ _ _ _ h2]
        exact hm
      · cases hm
    · exact Sub.refl _
theorem sub_aDraw {c c' : Call1} (hc : SubC c c') (ops : Array Oper) (t : T Value) (h : AH) : Sub (aDraw P c n ops t h) (aDraw P c' n ops t h) := by
 unfold aDraw
 split
 · exact sub_aLv hc _ _ _ _ _
 · unfold aDrawP
   split
   · exact Sub.refl _
   · unfold aDraw2
     split
     · refine sub_fLv hc (fun L t h => ?_) _ _ _ _ _
       unfold aFork
       split
       · exact sub_allL (fun left => sub_aAll hc _ _ _ _ _) _
       · exact Sub.refl _
     · exact Sub.refl _
theorem sub_jn {h0 : AH} {x y : COuts} (hs : Sub x y) : Sub (jn h0 x) (jn h0 y) := by
 intro l h
 cases x with
 | none => cases h
 | some m => rw [hs m rfl]; exact h
abbrev SubE (x y : Ev) : Prop := ∀ t ds h, Sub (x t ds h) (y t ds h)
theorem sub_thenX {y y' : Ev} (hy : SubE y y') (o : Out) : Sub (thenX y o) (thenX y' o) := by
 unfold thenX
 cases o.ex with
 | normal => exact hy _ _ _
 | exit i => exact Sub.refl _
 | ret => exact Sub.refl _
theorem sub_cThen {x x' y y' : Ev} (hx : SubE x x') (hy : SubE y y') : SubE (cThen x y) (cThen x' y') := fun t ds h => sub_bindL (hx t ds h) (sub_thenX hy)
theorem sub_aLoop {x x' : Ev} (hx : SubE x x') : ∀ (k k' : Nat), k ≤ k' → SubE (aLoop x k) (aLoop x' k')
 | 0, _, _ => fun _ _ _ => Sub.none _
 | k + 1, 0, h => by omega
 | k + 1, k' + 1, h => sub_cThen hx (sub_aLoop hx k k' (by omega))
theorem sub_aCode {c c' : Call1} (hc : SubC c c') {LF LF' : Nat} (hl : LF ≤ LF') (ro : Option Nat) : ∀ (x : Code), SubE (aCode P c n LF ro x) (aCode P c' n LF' ro x)
 | .skip => fun _ _ _ => Sub.refl _
 | .region _ ops draw => fun t ds h => by
  show Sub (cRegion P c n ops draw t ds h) (cRegion P c' n ops draw t ds h)
  unfold cRegion
  refine sub_bindL ?_ fun p => Sub.refl _
  cases draw with
  | true => exact sub_aDraw hc ops t h
  | false => exact sub_aOps hc ops _ t h
 | .seq x y => sub_cThen (sub_aCode hc hl ro x) (sub_aCode hc hl ro y)
 | .cond q x y => fun t ds h => by
  show Sub (cCond n q (aCode P c n LF ro x) (aCode P c n LF ro y) t ds h) (cCond n q (aCode P c' n LF' ro x) (aCode P c' n LF' ro y) t ds h)
  unfold cCond
  split
  · rename_i b _
    cases b with
    | true => exact sub_aCode hc hl ro x t ds h
    | false => exact sub_aCode hc hl ro y t ds h
  · exact Sub.refl _
 | .block id x => fun t ds h => by
  have e := sub_bindL (f := outX id) (sub_aCode hc hl ro x t ds h) (fun o => Sub.refl _)
  show Sub (cBlockX x id (aCode P c n LF ro x) t ds h) (cBlockX x id (aCode P c' n LF' ro x) t ds h)
  unfold cBlockX
  cases isRange x with
  | true => exact sub_jn e
  | false => exact e
 | .loop x => sub_aLoop (sub_aCode hc hl ro x) _ _ hl
 | .rangeFunc f ps asg body => fun t ds h => by
  obtain ⟨ps⟩ := ps
  show Sub (aCode0 P c n LF ro (.rangeFunc f ⟨ps⟩ asg body) t ds h) (aCode0 P c' n LF' ro (.rangeFunc f ⟨ps⟩ asg body) t ds h)
  simp only [aCode0]
  split
  · split
    · split
      · exact sub_bindL (hc _ _) fun p => Sub.refl _
      · exact Sub.refl _
    · exact Sub.refl _
  · exact Sub.refl _
 | .exit _ => fun _ _ _ => Sub.refl _
 | .scope _ => fun _ _ _ => Sub.refl _
 | .label _ => fun _ _ _ => Sub.refl _
 | .goto _ => fun _ _ _ => Sub.refl _
 | .ret => fun _ _ _ => Sub.refl _
 | .refuse _ => fun _ _ _ => Sub.refl _
theorem sub_aFun {c c' : Call1} (hc : SubC c c') {LF LF' : Nat} (hl : LF ≤ LF') : SubC (aFun P LF c) (aFun P LF' c') := by
 intro an h
 unfold aFun
 split
 · split
   · split
     · split
       · exact sub_bindL (sub_aCode hc hl none _ _ _ _) fun o => Sub.refl _
       · exact Sub.refl _
     · exact Sub.refl _
   · exact Sub.refl _
 · refine sub_bindL (sub_aCode hc hl _ _ _ _ _) fun o => ?_
   split
   · split
     · exact sub_bindL (sub_aCode hc hl _ _ _ _ _) fun o => Sub.refl _
     · exact Sub.refl _
   · exact Sub.refl _
 · exact Sub.refl _
class Kn (P : Program) where
 f : Option FuncId
 ok : ∀ g, f = some g → ∀ W, Calls P g #[] W (YesPost W)
 g : FuncId → List Value → AH → Option (List (Value × AH))
 gok : ∀ k args h l, g k args h = some l → ∀ (w0 : World) (φ : Phi) (w : World) (args' : List Value), R w0 φ h w → LR φ args args' →
  Calls P k ⟨args'⟩ w (fun e w' => ∃ v', e = .returned v' ∧ ∃ v h', (v, h') ∈ l ∧ ∃ φ', Nx φ φ' h h' ∧ R w0 φ' h' w' ∧ VR φ' v v')
def ovF (P : Program) [Kn P] (call : Call1) : Call1 := match Kn.f P with
 | some g => known g call
 | none => call
def ovK (P : Program) [Kn P] (call : Call1) : Call1 := fun an h => match an with
 | .enter k args => (match Kn.g P k args h with
  | some l => some l
  | none => ovF P call (.enter k args) h)
 | an => ovF P call an h
def kRun (P : Program) [Kn P] (LF : Nat) : Nat → Call1 := aRunW (ovK P) P LF
variable [Kn P]
theorem sub_ovF {c c' : Call1} (hc : SubC c c') : SubC (ovF P c) (ovF P c') := by
 intro an h
 unfold ovF
 cases Kn.f P with
 | none => exact hc an h
 | some g =>
  dsimp only
  unfold known
  split
  · split
    · exact Sub.refl _
    · exact hc _ _
  · exact hc _ _
theorem sub_ovK {c c' : Call1} (hc : SubC c c') : SubC (ovK P c) (ovK P c') := by
 intro an h
 unfold ovK
 split
 · split
   · exact Sub.refl _
   · exact sub_ovF hc _ _
 · exact sub_ovF hc _ _
theorem ovF_ok {w0 : World} {call : Call1} (hc : CallsOk w0 P call) : CallsOk w0 P (ovF P call) := by
 unfold ovF
 cases hk : Kn.f P with
 | none => exact hc
 | some g => exact known_ok (Kn.ok g hk) hc
theorem ovK_ok {w0 : World} {call : Call1} (hc : CallsOk w0 P call) : CallsOk w0 P (ovK P call) := by
 intro an h l φ w nx hs hr hnr
 unfold ovK at hs
 split at hs
 · rename_i k args
   split at hs
   · rename_i l' hg
     cases hs
     cases hnr with
     | enter hl =>
      refine ⟨?_, fun _ _ _ _ _ e => by cases e⟩
      intro f' args' e
      cases e
      exact Kn.gok k args h _ hg w0 φ w _ hr hl
   · exact ovF_ok hc _ h l φ w nx hs hr hnr
 · exact ovF_ok hc _ h l φ w nx hs hr hnr
theorem ovK_enter {call : Call1} {f : FuncId} {args : List Value} {h : AH} (hk : Kn.f P ≠ some f ∨ args ≠ []) (hg0 : Kn.g P f args h = none) : ovK P call (.enter f args) h = call (.enter f args) h := by
 unfold ovK
 dsimp only
 rw [hg0]
 dsimp only
 unfold ovF
 cases hg : Kn.f P with
 | none => rfl
 | some g =>
  dsimp only
  unfold known
  cases args with
  | nil =>
   dsimp only
   rcases hk with hk | hk
   · rw [if_neg (fun e => hk (by rw [hg, e]))]
   · exact absurd rfl hk
  | cons a l => rfl
theorem sub_kRun : ∀ {k k' LF LF' : Nat}, k ≤ k' → LF ≤ LF' → SubC (kRun P LF k) (kRun P LF' k')
 | 0, _, _, _, _, _ => fun _ _ => Sub.none _
 | k + 1, 0, _, _, h, _ => by omega
 | k + 1, k' + 1, _, _, h, hl => sub_ovK (sub_aFun (sub_kRun (by omega) hl) hl)
def Mono {α : Type} (x : Nat → Option α) : Prop := ∀ i j, i ≤ j → Sub (x i) (x j)
def lim {α : Type} (x : Nat → Option α) : Option α := open Classical in if h : ∃ i, (x i).isSome = true then x (Classical.choose h) else none
theorem lim_some {α : Type} {x : Nat → Option α} (hm : Mono x) {a : α} : lim x = some a ↔ ∃ i, x i = some a := by
 unfold lim
 constructor
 · intro h
   split at h
   · exact ⟨_, h⟩
   · cases h
 · rintro ⟨i, hi⟩
   have hx : ∃ i, (x i).isSome = true := ⟨i, by rw [hi]; rfl⟩
   rw [dif_pos hx]
   have h1 := Classical.choose_spec hx
   obtain ⟨b, hb⟩ := Option.isSome_iff_exists.1 h1
   rcases Nat.le_total i (Classical.choose hx) with hle | hle
   · exact hm _ _ hle a hi
   · have := hm _ _ hle b hb
     rw [hi] at this; cases this; exact hb
theorem lim_ext {α : Type} {x y : Nat → Option α} (hx : Mono x) (hy : Mono y) (h1 : ∀ i a, x i = some a → ∃ j, y j = some a) (h2 : ∀ i a, y i = some a → ∃ j, x j = some a) : lim x = lim y := by
 cases h : lim x with
 | none =>
  cases h' : lim y with
  | none => rfl
  | some b =>
   obtain ⟨i, hi⟩ := (lim_some hy).1 h'
   obtain ⟨j, hj⟩ := h2 i b hi
   rw [(lim_some hx).2 ⟨j, hj⟩] at h; cases h
 | some a =>
  obtain ⟨i, hi⟩ := (lim_some hx).1 h
  obtain ⟨j, hj⟩ := h1 i a hi
  exact ((lim_some hy).2 ⟨j, hj⟩).symm
theorem lim_const {α : Type} (x : Option α) : lim (fun _ => x) = x := by
 cases x with
 | none =>
  unfold lim
  rw [dif_neg (by simp)]
 | some a => exact (lim_some (fun _ _ _ => Sub.refl _)).2 ⟨0, rfl⟩
theorem go_some {α β : Type} {f : Nat → α → Option (List β)} (hf : ∀ a, Mono (fun i => f i a)) : ∀ (l : List α) (m : List β), bindL.go (fun a => lim (fun i => f i a)) l = some m → ∃ i, bindL.go (f i) l = some m
 | [], m, h => ⟨0, h⟩
 | [a], m, h => (lim_some (hf a)).1 h
 | a :: b :: l, m, h => by
  have h : joinL (lim (fun i => f i a)) (bindL.go (fun a => lim (fun i => f i a)) (b :: l)) = some m := h
  cases h1 : lim (fun i => f i a) with
  | none => rw [h1] at h; cases h
  | some x =>
   cases h2 : bindL.go (fun a => lim (fun i => f i a)) (b :: l) with
   | none => rw [h1, h2] at h; cases h
   | some y =>
    rw [h1, h2] at h
    obtain ⟨i, hi⟩ := (lim_some (hf a)).1 h1
    obtain ⟨j, hj⟩ := go_some hf (b :: l) y h2
    refine ⟨max i j, ?_⟩
    show joinL (f (max i j) a) (bindL.go (f (max i j)) (b :: l)) = some m
    have e1 : f (max i j) a = some x := hf a i _ (Nat.le_max_left _ _) x hi
    have e2 : bindL.go (f (max i j)) (b :: l) = some y := sub_go (b :: l) (fun c _ => hf c j _ (Nat.le_max_right _ _)) y hj
    rw [e1, e2]
    exact h
theorem lim_bindL {α β : Type} {x : Nat → Option (List α)} {f : Nat → α → Option (List β)} (hx : Mono x) (hf : ∀ a, Mono (fun i => f i a)) :
  lim (fun i => bindL (x i) (f i)) = bindL (lim x) (fun a => lim (fun i => f i a)) := by
 have hm : Mono (fun i => bindL (x i) (f i)) := fun i j hij => sub_bindL (hx i j hij) (fun a => hf a i j hij)
 cases h : bindL (lim x) (fun a => lim (fun i => f i a)) with
 | some m =>
  cases hl : lim x with
  | none => rw [hl] at h; cases h
  | some l =>
   rw [hl] at h
   obtain ⟨i, hi⟩ := (lim_some hx).1 hl
   obtain ⟨j, hj⟩ := go_some hf l m h
   refine (lim_some hm).2 ⟨max i j, ?_⟩
   show bindL (x (max i j)) (f (max i j)) = some m
   rw [hx i _ (Nat.le_max_left _ _) l hi]
   exact sub_go l (fun a _ => hf a j _ (Nat.le_max_right _ _)) m hj
 | none =>
  cases h' : lim (fun i => bindL (x i) (f i)) with
  | none => rfl
  | some m =>
   obtain ⟨i, hi⟩ := (lim_some hm).1 h'
   have hi : bindL (x i) (f i) = some m := hi
   cases hxi : x i with
   | none => rw [hxi] at hi; cases hi
   | some l =>
    rw [hxi] at hi
    rw [(lim_some hx).2 ⟨i, hxi⟩] at h
    have : bindL.go (fun a => lim (fun i => f i a)) l = some m := sub_go l (fun a _ => fun b hb => (lim_some (hf a)).2 ⟨i, hb⟩) m hi
    have h : bindL.go (fun a => lim (fun i => f i a)) l = none := h
    rw [this] at h; cases h
def eRun (P : Program) [Kn P] : Call1 := fun an h => lim (fun M => kRun P M M an h)
def eCode (P : Program) [Kn P] (n : Nat) (ro : Option Nat) (c : Code) : Ev := fun t ds h => lim (fun M => aCode P (kRun P M M) n M ro c t ds h)
theorem mono_run (an : AN) (h : AH) : Mono (fun M => kRun P M M an h) := fun _i _j hij => sub_kRun hij hij an h
theorem mono_code (ro : Option Nat) (c : Code) (t : T Value) (ds : List Nat) (h : AH) : Mono (fun M => aCode P (kRun P M M) n M ro c t ds h) := fun _i _j hij => sub_aCode (sub_kRun hij hij) hij ro c t ds h
theorem eRun_callsOk (hN : NoCount P) (hM : P.follows .mixedOrders = true) (w0 : World) : CallsOk w0 P (eRun P) := by
 intro an h l φ w nx hs
 obtain ⟨M, hM'⟩ := (lim_some (mono_run an h)).1 hs
 exact runW_callsOk hN hM M (fun _ hc => ovK_ok hc) M an h l φ w nx hM'
theorem mono_thenX {x : Nat → Ev} (hx : ∀ t ds h, Mono (fun i => x i t ds h)) (o : Out) : Mono (fun i => thenX (x i) o) := fun i j hij => sub_thenX (fun t ds h => hx t ds h i j hij) o
theorem lim_thenX {x : Nat → Ev} (o : Out) : lim (fun i => thenX (x i) o) = thenX (fun t ds h => lim (fun i => x i t ds h)) o := by
 unfold thenX
 cases o.ex with
 | normal => rfl
 | exit i => exact lim_const _
 | ret => exact lim_const _
theorem eCode_seq (ro : Option Nat) (x y : Code) : eCode P n ro (.seq x y) = cThen (eCode P n ro x) (eCode P n ro y) := by
 funext t ds h
 show lim (fun M => bindL (aCode P (kRun P M M) n M ro x t ds h) (thenX (aCode P (kRun P M M) n M ro y))) = _
 rw [lim_bindL (mono_code ro x t ds h) (fun o => mono_thenX (fun t ds h => mono_code ro y t ds h) o)]
 unfold cThen
 congr 1
 funext o
 exact lim_thenX o
theorem eCode_cond (ro : Option Nat) (q : Operand) (x y : Code) : eCode P n ro (.cond q x y) = cCond n q (eCode P n ro x) (eCode P n ro y) := by
 funext t ds h
 show lim (fun M => cCond n q (aCode P (kRun P M M) n M ro x) (aCode P (kRun P M M) n M ro y) t ds h) = _
 unfold cCond
 split
 · rename_i b _; cases b <;> rfl
 · exact lim_const _
theorem eCode_block (ro : Option Nat) (id : Nat) (x : Code) (hr : isRange x = false) : eCode P n ro (.block id x) = cBlock id (eCode P n ro x) := by
 funext t ds h
 have e : ∀ M, aCode P (kRun P M M) n M ro (.block id x) t ds h = bindL (aCode P (kRun P M M) n M ro x t ds h) (outX id) := by
  intro M
  show cBlockX x id (aCode P (kRun P M M) n M ro x) t ds h = _
  generalize aCode P (kRun P M M) n M ro x = y
  unfold cBlockX
  rw [hr]
  rfl
 show lim (fun M => aCode P (kRun P M M) n M ro (.block id x) t ds h) = _
 simp only [e]
 rw [lim_bindL (mono_code ro x t ds h) (fun _ _ _ _ => Sub.refl _)]
 unfold cBlock
 congr 1
 funext o
 exact lim_const _
theorem eCode_loop (ro : Option Nat) (x : Code) : eCode P n ro (.loop x) = cThen (eCode P n ro x) (eCode P n ro (.loop x)) := by
 funext t ds h
 have e : ∀ M, aCode P (kRun P M M) n M ro (.loop x) = aLoop (aCode P (kRun P M M) n M ro x) M := fun _ => rfl
 have sh : lim (fun M => aCode P (kRun P M M) n M ro (.loop x) t ds h) = lim (fun M => bindL (aCode P (kRun P M M) n M ro x t ds h) (thenX (aCode P (kRun P M M) n M ro (.loop x)))) := by
  refine lim_ext (mono_code ro (.loop x) t ds h) (fun i j hij => sub_bindL (mono_code ro x t ds h i j hij) (sub_thenX fun t ds h => mono_code ro (.loop x) t ds h i j hij)) ?_ ?_
  · intro i a hi
    cases i with
    | zero => rw [e] at hi; cases hi
    | succ i =>
     refine ⟨i + 1, ?_⟩
     have hi : bindL (aCode P (kRun P (i+1) (i+1)) n (i+1) ro x t ds h) (thenX (aLoop (aCode P (kRun P (i+1) (i+1)) n (i+1) ro x) i)) = some a := hi
     exact sub_bindL (Sub.refl _) (sub_thenX (sub_aLoop (fun _ _ _ => Sub.refl _) _ _ (Nat.le_succ i))) a hi
  · intro i a hi
    refine ⟨i + 1, ?_⟩
    show bindL (aCode P (kRun P (i+1) (i+1)) n (i+1) ro x t ds h) (thenX (aLoop (aCode P (kRun P (i+1) (i+1)) n (i+1) ro x) i)) = some a
    have hs := Nat.le_succ i
    exact sub_bindL (mono_code ro x t ds h i _ hs) (sub_thenX (sub_aLoop (fun t ds h => mono_code ro x t ds h i _ hs) _ _ (Nat.le_refl i))) a hi
 show lim (fun M => aCode P (kRun P M M) n M ro (.loop x) t ds h) = _
 rw [sh, lim_bindL (mono_code ro x t ds h) (fun o => mono_thenX (fun t ds h => mono_code ro (.loop x) t ds h) o)]
 unfold cThen
 congr 1
 funext o
 exact lim_thenX o
theorem eCode_const {ro : Option Nat} {c : Code} {r : Ex} (hc : ∀ (call : Call1) (M : Nat) t ds h, aCode P call n M ro c t ds h = some [⟨r, t, ds, h⟩]) (t : T Value) (ds : List Nat) (h : AH) : eCode P n ro c t ds h = some [⟨r, t, ds, h⟩] := by
 have e : eCode P n ro c t ds h = lim (fun M => aCode P (kRun P M M) n M ro c t ds h) := rfl
 rw [e]
 simp only [hc]
 exact lim_const _
theorem lim_step (t : T Value) (h : AH) (o : Op) : lim (fun M => aStep P (kRun P M M) n t h o) = aStep P (eRun P) n t h o := by
 unfold aStep
 rw [lim_bindL (fun _ _ _ => Sub.refl _) ?_, lim_const]
 · congr 1
   funext p
   obtain ⟨an, h'⟩ := p
   cases an with
   | val v => exact lim_const _
   | skip => exact lim_const _
   | enter f args => rfl
   | round b ts sz asg body => rfl
 · intro p i j hij
   obtain ⟨an, h'⟩ := p
   cases an with
   | val v => exact Sub.refl _
   | skip => exact Sub.refl _
   | enter f args => exact mono_run _ _ i j hij
   | round b ts sz asg body => exact mono_run _ _ i j hij
theorem mono_step (t : T Value) (h : AH) (o : Op) : Mono (fun M => aStep P (kRun P M M) n t h o) := fun _ _ hij => sub_aStep (sub_kRun hij hij) t h o
theorem mono_ops (ops : Array Oper) (l : List Oper) (t : T Value) (h : AH) : Mono (fun M => aOps P (kRun P M M) n ops l t h) := fun _ _ hij => sub_aOps (sub_kRun hij hij) ops l t h
theorem lim_ops (ops : Array Oper) : ∀ (l : List Oper) (t : T Value) (h : AH), lim (fun M => aOps P (kRun P M M) n ops l t h) = aOps P (eRun P) n ops l t h
 | [], t, h => lim_const _
 | o :: l, t, h => by
  have ih := lim_ops ops l
  show lim (fun M => opsStep P (kRun P M M) n ops o (aOps P (kRun P M M) n ops l) t h) = opsStep P (eRun P) n ops o (aOps P (eRun P) n ops l) t h
  unfold opsStep
  cases aWant n t ops o with
  | true =>
   dsimp only
   rw [lim_bindL (mono_step t h o.op) ?_, lim_step]
   · congr 1
     funext p
     cases aPut n t o.dst p.1 with
     | none => exact lim_const _
     | some t' => exact ih t' p.2
   · intro p i j hij
     dsimp only
     cases aPut n t o.dst p.1 with
     | none => exact Sub.refl _
     | some t' => exact mono_ops ops l t' p.2 i j hij
  | false =>
   dsimp only
   cases aPut n t o.dst undef with
   | none => exact lim_const _
   | some t' => exact ih t' h
theorem mono_lv {ops : Array Oper} {ls ms : List Nat} (k L : Nat) (seen : List Nat) (t : T Value) (h : AH) : Mono (fun M => aLv P (kRun P M M) n ops ls ms k L seen t h) := fun _ _ hij => sub_aLv (sub_kRun hij hij) k L seen t h
theorem lim_cont {ops : Array Oper} {ls ms : List Nat} {rec : Nat → Nat → List Nat → T Value → AH → Option (List (T Value × AH))} (hr : ∀ L s t h, Mono (fun M => rec M L s t h)) (L : Nat) (seen : List Nat) (t : T Value) (h : AH) :
   lim (fun M => aCont P (kRun P M M) n ops ls ms (rec M) L seen t h) = aCont P (eRun P) n ops ls ms (fun L s t h => lim (fun M => rec M L s t h)) L seen t h := by
 unfold aCont
 split
 · exact lim_const _
 · split
   · exact lim_const _
   · rename_i o _
     split
     · rw [lim_bindL (mono_step t h o.op) ?_, lim_step]
       · congr 1
         funext p
         cases aPut n t o.dst p.1 with
         | none => exact lim_const _
         | some t2 => rfl
       · intro p i j hij
         dsimp only
         cases aPut n t o.dst p.1 with
         | none => exact Sub.refl _
         | some t2 => exact hr _ _ _ _ i j hij
     · cases aPut n t o.dst undef with
       | none => exact lim_const _
       | some t2 => rfl
theorem lim_lv {ops : Array Oper} {ls ms : List Nat} : ∀ (k L : Nat) (seen : List Nat) (t : T Value) (h : AH), lim (fun M => aLv P (kRun P M M) n ops ls ms k L seen t h) = aLv P (eRun P) n ops ls ms k L seen t h
 | 0, _, _, _, _ => lim_const _
 | k + 1, L, seen, t, h => by
  have ih := lim_lv (ops := ops) (ls := ls) (ms := ms) k
  simp only [aLv]
  split
  · exact lim_const _
  · split
    · rw [lim_cont (rec := fun M => aLv P (kRun P M M) n ops ls ms k) (fun L s t h => mono_lv k L s t h)]
      congr 1
      funext L s t h
      exact ih L s t h
    · exact lim_const _
theorem lim_draw (ops : Array Oper) (hp : planOk n ops (levL ops) (maskL ops) = true) (t : T Value) (h : AH) : lim (fun M => aDraw P (kRun P M M) n ops t h) = aDraw P (eRun P) n ops t h := by
 unfold aDraw
 simp only [if_pos hp]
 exact lim_lv _ _ _ _ _
theorem eCode_region (ro : Option Nat) (id : Nat) (ops : Array Oper) (draw : Bool) (hp : draw = true → planOk n ops (levL ops) (maskL ops) = true) : eCode P n ro (.region id ops draw) = cRegion P (eRun P) n ops draw := by
 funext t ds h
 show lim (fun M => cRegion P (kRun P M M) n ops draw t ds h) = _
 unfold cRegion
 cases draw with
 | true =>
  dsimp only
  rw [lim_bindL (fun _ _ hij => sub_aDraw (sub_kRun hij hij) ops t h) (fun _ _ _ _ => Sub.refl _), lim_draw _ (hp rfl)]
  congr 1
  funext p
  exact lim_const _
 | false =>
  dsimp only
  rw [lim_bindL (mono_ops ops _ t h) (fun _ _ _ _ => Sub.refl _), lim_ops]
  congr 1
  funext p
  exact lim_const _
def fin (P : Program) (fn : Func) (o : Out) : Option (List (Value × AH)) := match o.ex with
 | .exit _ => none
 | _ => (match aLeave o.ds o.h with
  | some h' => (match aRes P fn.ntmps o.t h' fn.results.toList with
   | some v => some [(v, h')]
   | none => none)
  | none => none)
theorem eRun_enter {f : FuncId} {fn : Func} {c : Code} {args : List Value} (hf : P.funcs[f]? = some fn) (hb : fn.body = some c) (hl : args.length ≤ fn.ntmps) (_hn : T.Ok (fn.ntmps)) (hk : Kn.f P ≠ some f ∨ args ≠ []) (h : AH) (hg0 : Kn.g P f args h = none) :
  eRun P (.enter f args) h = bindL (eCode P fn.ntmps none c (T.fill args 0 .e) [] h) (fin P fn) := by
 have ef : ∀ (call : Call1) (M : Nat), aFun P M call (.enter f args) h = bindL (aCode P call fn.ntmps M none c (T.fill args 0 .e) [] h) (fin P fn) := by
  intro call M
  unfold aFun
  dsimp only
  rw [hf]
  dsimp only
  rw [hb]
  dsimp only
  rw [if_pos hl]
  rfl
 have sh : eRun P (.enter f args) h = lim (fun M => bindL (aCode P (kRun P M M) fn.ntmps M none c (T.fill args 0 .e) [] h) (fin P fn)) := by
  refine lim_ext (mono_run _ _) (fun i j hij => sub_bindL (mono_code none c _ _ h i j hij) (fun o => Sub.refl _)) ?_ ?_
  · intro i a hi
    cases i with
    | zero => cases hi
    | succ i =>
     have hi : ovK P (aFun P (i + 1) (kRun P (i + 1) i)) (.enter f args) h = some a := hi
     rw [ovK_enter hk hg0, ef] at hi
     exact ⟨i + 1, sub_bindL (sub_aCode (sub_kRun (Nat.le_succ i) (Nat.le_refl _)) (Nat.le_refl _) none c _ _ h) (fun o => Sub.refl _) a hi⟩
  · intro i a hi
    refine ⟨i + 1, ?_⟩
    show ovK P (aFun P (i + 1) (kRun P (i + 1) i)) (.enter f args) h = some a
    rw [ovK_enter hk hg0, ef]
    exact sub_bindL (sub_aCode (sub_kRun (Nat.le_refl i) (Nat.le_succ i)) (Nat.le_succ i) none c _ _ h) (fun o => Sub.refl _) a hi
 rw [sh, lim_bindL (mono_code none c _ _ h) (fun _ _ _ _ => Sub.refl _)]
 unfold eCode
 congr 1
 funext o
 exact lim_const _
theorem eRun_known {g : FuncId} (hk : Kn.f P = some g) (h : AH) (hg0 : Kn.g P g [] h = none) : eRun P (.enter g []) h = some [(.bool true, h)] := by
 refine (lim_some (mono_run _ _)).2 ⟨1, ?_⟩
 show ovK P (aFun P 1 (kRun P 1 0)) (.enter g []) h = _
 unfold ovK
 dsimp only
 rw [hg0]
 dsimp only
 unfold ovF
 rw [hk]
 dsimp only
 unfold known
 dsimp only
 rw [if_pos rfl]
end
end Go.X
namespace Go.Arm
noncomputable section
open Go Go.X
def RX {α : Type} (x : Option (List α)) (Q : α → Prop) : Prop := ∃ l, x = some l ∧ ∀ a, a ∈ l → Q a
theorem RX_one {α : Type} {a : α} {Q : α → Prop} (h : Q a) : RX (some [a]) Q := ⟨_, rfl, fun b hb => by cases List.mem_singleton.1 hb; exact h⟩
theorem RX_mono {α : Type} {x : Option (List α)} {Q Q' : α → Prop} (h : RX x Q) (hq : ∀ a, Q a → Q' a) : RX x Q' := by
 obtain ⟨l, e, k⟩ := h; exact ⟨l, e, fun a ha => hq a (k a ha)⟩
theorem RX_go {α β : Type} {f : α → Option (List β)} {Q : β → Prop} : ∀ (l : List α), (∀ a, a ∈ l → RX (f a) Q) → RX (bindL.go f l) Q
 | [], _ => ⟨[], rfl, fun a ha => by cases ha⟩
 | [a], h => h a (by simp)
 | a :: b :: l, h => by
  obtain ⟨m, e1, k1⟩ := h a (by simp)
  obtain ⟨m', e2, k2⟩ := RX_go (b :: l) (fun c hc => h c (List.mem_cons_of_mem _ hc))
  refine ⟨m ++ m', ?_, fun c hc => ?_⟩
  · show joinL (f a) (bindL.go f (b :: l)) = _
    rw [e1, e2]; rfl
  · rcases List.mem_append.1 hc with h | h
    · exact k1 c h
    · exact k2 c h
theorem RX_bind {α β : Type} {x : Option (List α)} {f : α → Option (List β)} {Q : β → Prop} (h : RX x (fun a => RX (f a) Q)) : RX (bindL x f) Q := by
 obtain ⟨l, rfl, k⟩ := h
 exact RX_go l k
abbrev Fr := Nat → Value
def fr (t : T Value) : Fr := fun k => (t.get k).getD undef
def upd (f : Fr) (d : Nat) (v : Value) : Fr := fun t => Bool.rec (motive := fun _ => Value) (f t) v (Nat.beq t d)
def updO (f : Fr) (d : Option Nat) (v : Value) : Fr := match d with | some d => upd f d v | none => f
theorem upd_eq (f : Fr) (d : Nat) (v : Value) (k : Nat) : upd f d v k = if k = d then v else f k := T.beq_ite k d v (f k)
def ev (n : Nat) (f : Fr) (x : Operand) : Option Value := Operand.rec (motive := fun _ => Option Value)
 (fun k => Bool.rec (motive := fun _ => Option Value) (some (f k)) none (Nat.ble n k))
 (fun v => Bool.rec (motive := fun _ => Option Value) none (some v) (pfv v)) (fun _ => none) (fun f => some (.func (.func f) #[] #[])) x
theorem aO_ev (n : Nat) (t : T Value) (x : Operand) : aO n t x = ev n (fr t) x := by
 cases x with
 | tmp k =>
  show (Bool.rec (motive := fun _ => Option Value) (some (Option.rec (motive := fun _ => Value) undef (fun v => v) (t.get k))) none (Nat.ble n k)) = Bool.rec (motive := fun _ => Option Value) (some ((t.get k).getD undef)) none (Nat.ble n k)
  cases t.get k <;> rfl
 | const v => rfl
 | global g => rfl
 | func f => rfl
theorem fr_set {t : T Value} {d n : Nat} (_hd : d < n) (_hn : T.Ok (n)) (v : Value) : fr (t.set d (some v)) = upd (fr t) d v := by
 funext k
 rw [upd_eq]
 show ((t.set d (some v)).get k).getD undef = _
 rw [T.get_set]
 by_cases e : k = d
 · rw [if_pos e, if_pos e]; rfl
 · rw [if_neg e, if_neg e]; rfl
theorem aPut_fr {t : T Value} {n : Nat} (hn : T.Ok (n)) {d : Option Nat} (hd : ∀ k, d = some k → k < n) (v : Value) : ∃ t', aPut n t d v = some t' ∧ fr t' = updO (fr t) d v := by
 cases d with
 | none => exact ⟨t, rfl, rfl⟩
 | some d =>
  have := hd d rfl
  refine ⟨t.set d (some v), ?_, fr_set this hn v⟩
  rw [aPut_eq]
  simp [this]
abbrev Post := Ex → Fr → AH → Prop
def W (P : Program) [Kn P] (n : Nat) (c : Code) (Q : Post) (f : Fr) (w : AH) : Prop :=
 T.Ok (n) → ∀ t, fr t = f → RX (eCode P n none c t [] w) fun o => o.ds = [] ∧ Q o.ex (fr o.t) o.h
section
variable {P : Program} [Kn P] {n : Nat} {Q Q' : Post} {f : Fr} {w : AH}
theorem W_mono {c : Code} (h : W P n c Q f w) (hq : ∀ e f w, Q e f w → Q' e f w) : W P n c Q' f w :=
 fun hn t ht => RX_mono (h hn t ht) fun _ q => ⟨q.1, hq _ _ _ q.2⟩
def Then (next : Fr → AH → Prop) (Q : Post) : Post
 | .normal, f, w => next f w
 | e, f, w => Q e f w
theorem thenX_RX {y : Ev} {o : Out} {R : Out → Prop} (h : ∀ (e : Ex), o.ex = e → (match e with | .normal => RX (y o.t o.ds o.h) R | _ => R o)) : RX (thenX y o) R := by
 unfold thenX
 have := h o.ex rfl
 cases he : o.ex with
 | normal => rw [he] at this; exact this
 | exit i => rw [he] at this; exact RX_one this
 | ret => rw [he] at this; exact RX_one this
theorem W_seq {x y : Code} (h : W P n x (Then (fun f w => W P n y Q f w) Q) f w) : W P n (.seq x y) Q f w := by
 intro hn t ht
 rw [eCode_seq]
 refine RX_bind (RX_mono (h hn t ht) ?_)
 rintro o ⟨hd, q⟩
 refine thenX_RX fun e he => ?_
 rw [he] at q
 cases e with
 | normal => have := q hn o.t rfl; rw [hd]; exact this
 | exit i => exact ⟨hd, he ▸ q⟩
 | ret => exact ⟨hd, he ▸ q⟩
theorem W_seq_cut {x y : Code} (J : Fr → AH → Prop) (h : W P n x (Then J Q) f w) (k : ∀ f w, J f w → W P n y Q f w) : W P n (.seq x y) Q f w :=
 W_seq (W_mono h fun e f w q => by cases e with | normal => exact k _ _ q | _ => exact q)
theorem W_skip (h : Q .normal f w) : W P n .skip Q f w := fun _ t ht => by
 rw [eCode_const (fun _ _ _ _ _ => rfl)]; exact RX_one ⟨rfl, ht ▸ h⟩
theorem W_exit {id : Nat} (h : Q (.exit id) f w) : W P n (.exit id) Q f w := fun _ t ht => by
 rw [eCode_const (fun _ _ _ _ _ => rfl)]; exact RX_one ⟨rfl, ht ▸ h⟩
theorem W_ret (h : Q .ret f w) : W P n .ret Q f w := fun _ t ht => by
 rw [eCode_const (fun _ _ _ _ _ => rfl)]; exact RX_one ⟨rfl, ht ▸ h⟩
theorem W_cond {c : Operand} {x y : Code} (b : Bool) (hc : ev n f c = some (.bool b)) (ht : b = true → W P n x Q f w) (hf : b = false → W P n y Q f w) :
  W P n (.cond c x y) Q f w := by
 intro hn t htt
 rw [eCode_cond]
 unfold cCond
 rw [aO_ev, htt, hc]
 cases b with
 | true => exact ht rfl hn t htt
 | false => exact hf rfl hn t htt
def InBlock (id : Nat) (Q : Post) : Post
 | .exit k, f, w => if k = id then Q .normal f w else Q (.exit k) f w
 | e, f, w => Q e f w
theorem W_block {id : Nat} {c : Code} (h : W P n c (InBlock id Q) f w) (hr : isRange c = false := by kernel_rfl) : W P n (.block id c) Q f w := by
 intro hn t ht
 rw [eCode_block _ _ _ hr]
 refine RX_bind (RX_mono (h hn t ht) ?_)
 rintro ⟨ex, t', ds', h'⟩ ⟨hd, q⟩
 cases ex with
 | exit k =>
  show RX (Bool.rec (motive := fun _ => COuts) (some [(⟨.exit k, t', ds', h'⟩ : Out)]) (some [⟨.normal, t', ds', h'⟩]) (Nat.beq k id)) _
  simp only [InBlock] at q
  rw [beq_nat]
  split
  · rw [if_pos ‹_›] at q; exact RX_one ⟨hd, q⟩
  · rw [if_neg ‹_›] at q; exact RX_one ⟨hd, q⟩
 | normal => exact RX_one ⟨hd, q⟩
 | ret => exact RX_one ⟨hd, q⟩
theorem W_loop {c : Code} (J : Nat → Fr → AH → Prop) (m : Nat) (h0 : J m f w)
  (round : ∀ m f w, J m f w → W P n c (Then (fun f' w' => ∃ m', m' < m ∧ J m' f' w') Q) f w) : W P n (.loop c) Q f w := by
 intro hn
 suffices key : ∀ m f w, J m f w → ∀ t, fr t = f → RX (eCode P n none (.loop c) t [] w) fun o => o.ds = [] ∧ Q o.ex (fr o.t) o.h from key m f w h0
 intro m
 induction m using Nat.strongRecOn with
 | _ m ih =>
  intro f w hJ t ht
  rw [eCode_loop]
  refine RX_bind (RX_mono (round m f w hJ hn t ht) ?_)
  rintro o ⟨hd, q⟩
  refine thenX_RX fun e he => ?_
  rw [he] at q
  cases e with
  | normal =>
   obtain ⟨m', hlt, hJ'⟩ := q
   rw [hd]
   exact ih m' hlt _ _ hJ' o.t rfl
  | exit i => exact ⟨hd, he ▸ q⟩
  | ret => exact ⟨hd, he ▸ q⟩
def L (P : Program) [Kn P] (n : Nat) (ops : Array Oper) (Q : Post) (l : List Oper) (f : Fr) (w : AH) : Prop :=
 T.Ok (n) → ∀ t, fr t = f → RX (aOps P (eRun P) n ops l t w) fun p => Q .normal (fr p.1) p.2
theorem W_region {id : Nat} {l : List Oper} (h : L P n l.toArray Q l f w) : W P n (.region id l.toArray false) Q f w := by
 intro hn t ht
 rw [eCode_region _ _ _ _ (fun e => by cases e)]
 refine RX_bind ?_
 refine RX_mono (h hn t ht) fun p q => RX_one ⟨rfl, q⟩
variable {ops : Array Oper} {rest : List Oper} {o : Oper}
theorem L_nil (h : Q .normal f w) : L P n ops Q [] f w := fun _ _ ht => RX_one (ht ▸ h)
theorem L_step (hg : o.guard = none) (hd : ∀ k, o.dst = some k → k < n) (hr : ∀ t, fr t = f → RX (aStep P (eRun P) n t w o.op) fun p => L P n ops Q rest (updO f o.dst p.1) p.2) : L P n ops Q (o :: rest) f w := by
 intro hn t ht
 show RX (opsStep P (eRun P) n ops o (aOps P (eRun P) n ops rest) t w) _
 unfold opsStep
 have hw : aWant n t ops o = true := by unfold aWant; rw [hg]
 rw [hw]
 refine RX_bind (RX_mono (hr t ht) ?_)
 rintro ⟨v, w'⟩ hl
 obtain ⟨t', h1, h2⟩ := aPut_fr hn hd v (t := t)
 dsimp only
 rw [h1]
 exact hl hn t' (by rw [h2, ht])
theorem L_val {v : Value} {w' : AH} (hg : o.guard = none) (hd : ∀ k, o.dst = some k → k < n)
  (hr : ∀ t, fr t = f → aOp P n t w o.op = some [(.val v, w')]) (h : L P n ops Q rest (updO f o.dst v) w') : L P n ops Q (o :: rest) f w := by
 refine L_step hg hd fun t ht => ?_
 unfold aStep
 rw [hr t ht]
 exact RX_one h
theorem L_skip {w' : AH} (hg : o.guard = none) (hd : o.dst = none)
  (hr : ∀ t, fr t = f → aOp P n t w o.op = some [(.skip, w')]) (h : L P n ops Q rest f w') : L P n ops Q (o :: rest) f w := by
 refine L_step hg (fun k e => by rw [hd] at e; cases e) fun t ht => ?_
 unfold aStep
 rw [hr t ht]
 refine RX_one ?_
 rw [hd]; exact h
theorem L_call {k : FuncId} {args : List Value} {w' : AH} {R : Value × AH → Prop} (hg : o.guard = none) (hd : ∀ k, o.dst = some k → k < n)
  (hr : ∀ t, fr t = f → aOp P n t w o.op = some [(.enter k args, w')]) (hc : RX (eRun P (.enter k args) w') R)
  (h : ∀ v w'', R (v, w'') → L P n ops Q rest (updO f o.dst v) w'') : L P n ops Q (o :: rest) f w := by
 refine L_step hg hd fun t ht => ?_
 unfold aStep
 rw [hr t ht]
 refine RX_mono (x := eRun P (.enter k args) w') hc ?_
 rintro ⟨v, w''⟩ hR
 exact h v w'' hR
end
def entry (args : List Value) : Fr := fun t => args.getD t undef
def Calls (P : Program) [Kn P] (k : FuncId) (args : List Value) (w : AH) (R : Value × AH → Prop) : Prop := RX (eRun P (.enter k args) w) R
theorem fr_fill {args : List Value} (_hl : T.Ok (args.length)) : fr (T.fill args 0 .e) = entry args := by
 funext k
 show ((T.fill args 0 .e).get k).getD undef = args.getD k undef
 rw [T.get_fill]
 by_cases h : k < args.length
 · rw [if_pos (by omega)]; simp [h]
 · rw [if_neg (by omega), T.get_e]; simp [h]
def Done (P : Program) (n : Nat) (fn : Func) (R : Value × AH → Prop) : Post := fun e f w => (e = .ret ∨ e = .normal) ∧ ∀ t, fr t = f → ∃ v, aRes P n t w fn.results.toList = some v ∧ R (v, w)
theorem Calls_of_W {P : Program} [Kn P] {k : FuncId} {fn : Func} {c : Code} {args : List Value} {w : AH} {R : Value × AH → Prop} {n : Nat}
   (hf : P.funcs[k]? = some fn) (hb : fn.body = some c) (hn : fn.ntmps = n) (hl : args.length ≤ n) (ht : T.Ok (n)) (hk : (Kn.f P ≠ some k ∨ args ≠ []) ∧ Kn.g P k args w = none)
   (h : W P n c (Done P n fn R) (entry args) w) : Calls P k args w R := by
 subst hn
 unfold Calls
 rw [eRun_enter hf hb hl ht hk.1 w hk.2]
 refine RX_bind (RX_mono (h ht _ (fr_fill trivial)) ?_)
 rintro ⟨ex, t, ds, h'⟩ ⟨hd, he, hq⟩
 dsimp only at hd he hq
 subst hd
 obtain ⟨v, h1, h2⟩ := hq t rfl
 unfold fin
 rcases he with rfl | rfl
 · simp only [aLeave, h1]; exact RX_one h2
 · simp only [aLeave, h1]; exact RX_one h2
end
end Go.Arm
namespace Go.Arm
noncomputable section
open Go Go.X
def evs (n : Nat) (f : Fr) : List Operand → Option (List Value)
 | [] => some []
 | x :: l => match ev n f x, evs n f l with
  | some v, some m => some (v :: m)
  | _, _ => none
def evP (n : Nat) (f : Fr) : List (Nat × Operand) → Option (List (Nat × Value))
 | [] => some []
 | (i, x) :: l => match ev n f x, evP n f l with
  | some v, some m => some ((i, v) :: m)
  | _, _ => none
def evO (n : Nat) (f : Fr) : Option Operand → Option (Option Value)
 | none => some none
 | some x => match ev n f x with | some v => some (some v) | none => none
theorem aOs_ev (n : Nat) (t : T Value) : ∀ l : List Operand, aOs n t l = evs n (fr t) l
 | [] => rfl
 | x :: l => by simp only [aOs, evs, aO_ev, aOs_ev n t l]; rfl
theorem aPs_ev (n : Nat) (t : T Value) : ∀ l : List (Nat × Operand), aPs n t l = evP n (fr t) l
 | [] => rfl
 | (i, x) :: l => by simp only [aPs, evP, aO_ev, aPs_ev n t l]; rfl
theorem aOO_ev (n : Nat) (t : T Value) : ∀ x : Option Operand, aOO n t x = evO n (fr t) x
 | none => rfl
 | some x => by simp only [aOO, evO, aO_ev]; rfl
def evVal (P : Program) (n : Nat) (t : Fr) (h : AH) : Op → Option Value
 | .move x => ev n t x
 | .assign x => ev n t x
 | .pick c a b => match ev n t c with
  | some (.bool q) => ev n t (if q then a else b)
  | _ => none
 | .build T ⟨ps⟩ => match evP n t ps with | some l => aBuild P T l | none => none
 | .load T x => match ev n t x with | some (.pointer (some a)) => aLoad P T a h | _ => none
 | .nilCheck x => match ev n t x with | some v => if nilOk v then some v else none | none => none
 | .binOp op T x y _ => match ev n t x, ev n t y with | some a, some b => aBin P op T x y a b h | _, _ => none
 | .unOp op _ x => match ev n t x with | some v => aUn P op v | none => none
 | .convert s d x => match ev n t x with | some v => aConv P s d v h | none => none
 | .makeInterface T x => match ev n t x with | some v => aMkI P T v | none => none
 | .makeFunc (.func f) ⟨l⟩ ⟨m⟩ => match evs n t l, evs n t m with | some a, some b => some (.func (.func f) ⟨a⟩ ⟨b⟩) | _, _ => none
 | .slice T x lo hi mx => match ev n t x, evO n t lo, evO n t hi, evO n t mx with | some v, some a, some b, some c => aSl P T v a b c h | _, _, _, _ => none
 | .fieldAddr s x f => match ev n t x with | some (.pointer (some a)) => aField P s a f | _ => none
 | .field T x f => match ev n t x with | some v => aFieldV P T v f | none => none
 | .indexAddr T x i => match ev n t x, ev n t i with | some v, some j => aIndex P T v j | _, _ => none
 | .index T x i => match ev n t x, ev n t i with | some v, some j => aIndexV P T v j | _, _ => none
 | .lookup T x k c => match ev n t x, ev n t k with | some v, some j => aLookupX P T v j c h | _, _ => none
 | .typeAssert x _ T c => match ev n t x with | some v => aAssert P v T c | none => none
 | .extract x i => match ev n t x with | some v => aExtract v i | none => none
 | .entry it => match ev n t it with | some v => aEntryIt v h | none => none
 | .call ⟨.builtin .len, ⟨[x]⟩, ⟨[T]⟩⟩ => match ev n t x with | some v => aLen P T v h | none => none
 | .call ⟨.builtin .cap, ⟨[x]⟩, ⟨[T]⟩⟩ => match ev n t x with | some v => aCap P T v | none => none
 | _ => none
variable {P : Program} {n : Nat} {t : T Value} {h h' : AH}
theorem aVal_ev (o : Op) : aVal P n t h o = evVal P n (fr t) h o := by
 rw [aVal_eq]
 unfold aVal0 evVal
 split <;> simp only [aO_ev, aOs_ev, aPs_ev, aOO_ev] <;> rfl
def evAl0 (P : Program) (n : Nat) (t : Fr) : Op → Option (Al × Mk)
 | .alloc el => match zeroOf P el with
  | some z => (match isBld P el with
   | true => some (.tcells el (cellsL z), .ptr)
   | false => some (.cells (cellsL z), .ptr))
  | none => none
 | .box _ x => match ev n t x with | some v => some (.cells (cellsL v), .ptr) | none => none
 | .buildSlice T len ⟨ps⟩ => match P.underlying T, evP n t ps with
  | some (.slice el), some parts => (match szOf P el, zeroOf P el with
   | some k, some z => if len * k ≤ 16777216 ∧ (cellsL z).length = k then (match aFill (fun i => some (i * k, k)) (zrep len (cellsL z)) parts with
    | some l => some (.cells l, .sl len len)
    | none => none) else none
   | _, _ => none)
  | _, _ => none
 | .makeSlice T l c => match ev n t l, ev n t c with
  | some (.int _ l), some (.int _ c) => (match P.underlying T with
   | some (.slice el) => (match szOf P el, byOf P el, zeroOf P el with
    | some k, some by_, some z => if 0 ≤ l ∧ l ≤ c ∧ c * (by_ + 1) < 1099511627776 ∧ (cellsL z).length = k then some (.cells (zrep c.toNat (cellsL z)), .sl l.toNat c.toNat) else none
    | _, _, _ => none)
   | _ => none)
  | _, _ => none
 | .makeMap T r => match r with
  | none => some (.map, .mp)
  | some x => (match ev n t x with
   | some (.int _ _) => if isMapT P T then some (.map, .mp) else none
   | _ => none)
 | _ => none
def evAl (P : Program) (n : Nat) (t : Fr) (o : Op) : Option (Al × Mk) := match evAl0 P n t o with
 | some (al, mk) => if al.ok mk then some (al, mk) else none
 | none => none
theorem aAl_ev (o : Op) : aAl P n t o = evAl P n (fr t) o := by
 unfold aAl evAl
 have : aAl0 P n t o = evAl0 P n (fr t) o := by
  unfold aAl0 evAl0
  split <;> simp only [aO_ev, aPs_ev] <;> rfl
 rw [this]; rfl
theorem aLookupX_of {T : TypeId} {x k v : Value} {c : Bool} (hv : aLookup P T x k c h = some v) : aLookupX P T x k c h = some v := by
 unfold aLookupX; rw [hv]
theorem aUpdateX_of {T : TypeId} {x k v : Value} {h' : AH} (hv : aUpdate P T x k v h = some h') : aUpdateX P T x k v h = some h' := by
 unfold aUpdateX; rw [hv]
def evAct (P : Program) (n : Nat) (t : Fr) (h : AH) : Op → Outs
 | .store T a x => match ev n t a, ev n t x with | some (.pointer (some p)), some v => osk (aStore P T p v h) | _, _ => none
 | .mapUpdate T m k x => match ev n t m, ev n t k, ev n t x with | some a, some b, some c => osk (aUpdateX P T a b c h) | _, _, _ => none
 | .insert T m k x => match ev n t m, ev n t k, ev n t x with | some a, some b, some c => osk (aUpdate P T a b c h) | _, _, _ => none
 | .mapEntry T m k => match ev n t m, ev n t k with | some a, some b => ovh (aEntry P T a b h) | _, _ => none
 | .entryStore T m s x => match ev n t m, ev n t s, ev n t x with | some a, some b, some c => osk (aEStore T a b c h) | _, _, _ => none
 | .range T x => match ev n t x with | some v => ovh (aRange P T v h) | none => none
 | .next it isS => match ev n t it with | some v => onext (aNext v isS h) | none => none
 | .convert s d x => match ev n t x with | some v => aS2B P s d v h | none => none
 | .call ⟨.builtin b, ⟨args⟩, ⟨Ts⟩⟩ => match evs n t args with | some vs => aBuiltin P b Ts vs h | none => none
 | _ => none
theorem aAct_ev (o : Op) : aAct P n t h o = evAct P n (fr t) h o := by
 rw [aAct_eq]
 unfold aAct0 evAct
 split <;> simp only [aO_ev, aOs_ev] <;> rfl
def evCall (P : Program) (n : Nat) (t : Fr) (h : AH) : Op → Outs
 | .call ⟨.value f, ⟨args⟩, _⟩ => match ev n t f, evs n t args with
  | some (.func fn ⟨first⟩ ⟨cap⟩), some vs => aInvoke P fn cap (first ++ vs) h
  | _, _ => none
 | .call ⟨.invoke recv name, ⟨args⟩, _⟩ => match ev n t recv, evs n t args with
  | some (.iface ty v), some vs => (match aMethod P ty v name with
   | some (f, _) => aCallF P f (v :: vs) h
   | none => none)
  | _, _ => none
 | _ => none
theorem aCallO_ev (o : Op) : aCallO P n t h o = evCall P n (fr t) h o := by
 unfold aCallO evCall
 split <;> simp only [aO_ev, aOs_ev] <;> rfl
def _root_.Go.X.AH.push (h : AH) (o : AObj) : AH := ⟨h.m.set h.next (some o), h.next + 1⟩
section
variable [Kn P]
variable {Q : Post} {f : Fr} {ops : Array Oper} {rest : List Oper} {o : Oper}
omit [Kn P] in
theorem aOp_val {v : Value} {q : Op} (hk : (kOp q == 1 || kOp q == 4) = true) (hv : aVal P n t h q = some v) : aOp P n t h q = some [(.val v, h)] := by
 unfold aOp
 rw [Bool.or_eq_true, beq_iff_eq, beq_iff_eq] at hk
 rcases hk with hk | hk <;> simp only [hk, hv]
theorem L_v {v : Value} (hg : o.guard = none) (hd : ∀ k, o.dst = some k → k < n) (hk : (kOp o.op == 1 || kOp o.op == 4) = true) (hv : evVal P n f h o.op = some v)
  (k : L P n ops Q rest (updO f o.dst v) h) : L P n ops Q (o :: rest) f h :=
 L_val hg hd (fun t ht => aOp_val hk (by rw [aVal_ev, ht]; exact hv)) k
def lazyV (P : Program) (n : Nat) (f : Fr) (h : AH) (o : Op) : Value := (evVal P n f h o).getD undef
theorem L_z (hg : o.guard = none) (hd : ∀ k, o.dst = some k → k < n) (hk : (kOp o.op == 1 || kOp o.op == 4) = true) (hs : (evVal P n f h o.op).isSome = true)
  (k : L P n ops Q rest (updO f o.dst (lazyV P n f h o.op)) h) : L P n ops Q (o :: rest) f h := by
 obtain ⟨v, hv⟩ := Option.isSome_iff_exists.1 hs
 refine L_v hg hd hk hv ?_
 unfold lazyV at k
 rw [hv] at k
 exact k
theorem L_new {al : Al} {mk : Mk} (hg : o.guard = none) (hd : ∀ k, o.dst = some k → k < n) (hk : kOp o.op = 0) (ha : evAl P n f o.op = some (al, mk))
  (k : L P n ops Q rest (updO f o.dst (mk.val h.next)) (h.push al.obj)) : L P n ops Q (o :: rest) f h :=
 L_val hg hd (fun t ht => by
  unfold aOp
  simp only [hk]
  rw [aAl_ev, ht, ha]
  rfl) k
omit [Kn P] in
theorem aOp_act {q : Op} (hk : kOp q = 2 ∨ (kOp q = 4 ∧ aVal P n t h q = none)) : aOp P n t h q = aAct P n t h q := by
 unfold aOp
 rcases hk with hk | ⟨hk, hv⟩
 · simp only [hk]
 · simp only [hk, hv]
theorem L_do (hg : o.guard = none) (hd : o.dst = none) (hk : kOp o.op = 2) (ha : evAct P n f h o.op = some [(.skip, h')])
  (k : L P n ops Q rest f h') : L P n ops Q (o :: rest) f h :=
 L_skip hg hd (fun t ht => by rw [aOp_act (.inl hk), aAct_ev, ht]; exact ha) k
theorem L_dov {v : Value} (hg : o.guard = none) (hd : ∀ k, o.dst = some k → k < n) (hk : kOp o.op = 2) (ha : evAct P n f h o.op = some [(.val v, h')])
  (k : L P n ops Q rest (updO f o.dst v) h') : L P n ops Q (o :: rest) f h :=
 L_val hg hd (fun t ht => by rw [aOp_act (.inl hk), aAct_ev, ht]; exact ha) k
theorem L_bu {v : Value} (hg : o.guard = none) (hd : ∀ k, o.dst = some k → k < n) (hk : kOp o.op = 4) (hn : evVal P n f h o.op = none) (ha : evAct P n f h o.op = some [(.val v, h')])
  (k : L P n ops Q rest (updO f o.dst v) h') : L P n ops Q (o :: rest) f h :=
 L_val hg hd (fun t ht => by rw [aOp_act (.inr ⟨hk, by rw [aVal_ev, ht]; exact hn⟩), aAct_ev, ht]; exact ha) k
theorem L_any {l : List (AN × AH)} (hg : o.guard = none) (hd : ∀ k, o.dst = some k → k < n) (hk : kOp o.op = 2) (ha : evAct P n f h o.op = some l)
  (k : ∀ p, p ∈ l → ∃ v, p.1 = .val v ∧ L P n ops Q rest (updO f o.dst v) p.2) : L P n ops Q (o :: rest) f h := by
 refine L_step hg hd fun t ht => ?_
 unfold aStep
 rw [aOp_act (.inl hk), aAct_ev, ht, ha]
 refine RX_bind ⟨l, rfl, fun p hp => ?_⟩
 obtain ⟨v, e, hl⟩ := k p hp
 obtain ⟨an, h2⟩ := p
 dsimp only at e hl ⊢
 subst e
 exact RX_one hl
theorem L_ca {g : FuncId} {args : List Value} {R : Value × AH → Prop} (hg : o.guard = none) (hd : ∀ k, o.dst = some k → k < n) (hk : kOp o.op = 3) (hc : evCall P n f h o.op = some [(.enter g args, h)])
  (hC : Calls P g args h R) (k : ∀ v h', R (v, h') → L P n ops Q rest (updO f o.dst v) h') : L P n ops Q (o :: rest) f h :=
 L_call hg hd (fun t ht => by
  unfold aOp
  simp only [hk]
  rw [aCallO_ev, ht]; exact hc) hC k
end
end
end Go.Arm
namespace Go.Arm
noncomputable section
open Go Go.X
variable {P : Program} {n : Nat} {h h' : AH} {Q : Post} {f : Fr} {ops : Array Oper} {o : Oper} {ls ms : List Nat}
def N (P : Program) (n : Nat) (ops : Array Oper) (K : Fr → AH → Prop) (l : List Nat) (f : Fr) (h : AH) : Prop := ∀ t, fr t = f → ∃ t1 h1, aNs P n ops l t h = some (t1, h1) ∧ K (fr t1) h1
section
variable {K : Fr → AH → Prop} {i : Nat} {r : List Nat}
theorem N_nil (k : K f h) : N P n ops K [] f h := fun t ht => ⟨t, h, rfl, ht ▸ k⟩
def Want (n : Nat) (ops : Array Oper) (o : Oper) (f : Fr) (b : Bool) : Prop := ∀ t, fr t = f → aWant n t ops o = b
theorem N_step {v : Value} (ho : ops[i]? = some o) (hw : Want n ops o f true) (hd : ∀ k, o.dst = some k → k < n) (hN : ∀ t, fr t = f → aN P n t h o.op = some (v, h'))
  (k : N P n ops K r (updO f o.dst v) h') : N P n ops K (i :: r) f h := by
 intro t ht
 obtain ⟨t2, h1, h2⟩ := aPut_fr (n := n) trivial hd v (t := t)
 obtain ⟨t1, h3, e, q⟩ := k t2 (by rw [h2, ht])
 refine ⟨t1, h3, ?_, q⟩
 simp only [aNs, ho, hw t ht, if_true, hN t ht, h1]
 exact e
theorem N_v {v : Value} (ho : ops[i]? = some o) (hw : Want n ops o f true) (hd : ∀ k, o.dst = some k → k < n) (hk : (opK o.op == 1 || opK o.op == 2) = true) (hv : evVal P n f h o.op = some v)
  (k : N P n ops K r (updO f o.dst v) h) : N P n ops K (i :: r) f h := by
 rw [Bool.or_eq_true, beq_iff_eq, beq_iff_eq] at hk
 refine N_step ho hw hd (fun t ht => ?_) k
 unfold aN
 rw [if_neg (by omega), if_neg (by omega), aVal_ev, ht, hv]
theorem N_new {al : Al} {mk : Mk} (ho : ops[i]? = some o) (hw : Want n ops o f true) (hd : ∀ k, o.dst = some k → k < n) (hk : opK o.op = 3) (ha : evAl P n f o.op = some (al, mk))
  (k : N P n ops K r (updO f o.dst (mk.val h.next)) (h.push al.obj)) : N P n ops K (i :: r) f h :=
 N_step ho hw hd (fun t ht => by
  unfold aN
  rw [if_pos hk, aAl_ev, ht, ha]
  rfl) k
theorem N_no (ho : ops[i]? = some o) (hw : Want n ops o f false) (hd : ∀ k, o.dst = some k → k < n) (k : N P n ops K r (updO f o.dst undef) h) : N P n ops K (i :: r) f h := by
 intro t ht
 obtain ⟨t2, h1, h2⟩ := aPut_fr (n := n) trivial hd undef (t := t)
 obtain ⟨t1, h3, e, q⟩ := k t2 (by rw [h2, ht])
 refine ⟨t1, h3, ?_, q⟩
 simp only [aNs, ho, hw t ht, Bool.false_eq_true, if_false, h1]
 exact e
end
def Rk (P : Program) (n : Nat) (ops : Array Oper) (f : Fr) (h : AH) (l : List Nat) : Prop :=
 ∀ t, fr t = f → ∀ i, i ∈ l → ∀ o, ops[i]? = some o → opK o.op = 2 → aWant n t ops o = true → ∃ v, evVal P n f h o.op = some v ∧ ∀ d, o.dst = some d → f d = v
section
variable {i : Nat} {r : List Nat}
theorem Rk_nil : Rk P n ops f h [] := fun _ _ i hi => by cases hi
theorem Rk_cons (k : Rk P n ops f h r) (hi : ∀ t, fr t = f → ∀ o, ops[i]? = some o → opK o.op = 2 → aWant n t ops o = true → ∃ v, evVal P n f h o.op = some v ∧ ∀ d, o.dst = some d → f d = v) : Rk P n ops f h (i :: r) := by
 intro t ht j hj o ho hk hw
 rcases List.mem_cons.1 hj with e | hj
 · subst e; exact hi t ht o ho hk hw
 · exact k t ht j hj o ho hk hw
theorem Rk_1 (ho : ops[i]? = some o) (hk : (opK o.op == 2) = false) (k : Rk P n ops f h r) : Rk P n ops f h (i :: r) :=
 Rk_cons k fun _ _ o' ho' hk' _ => by rw [ho] at ho'; cases ho'; rw [hk'] at hk; cases hk
theorem Rk_no (ho : ops[i]? = some o) (hw : Want n ops o f false) (k : Rk P n ops f h r) : Rk P n ops f h (i :: r) :=
 Rk_cons k fun t ht o' ho' _ hw' => by rw [ho] at ho'; cases ho'; rw [hw t ht] at hw'; cases hw'
theorem Rk_v {d : Nat} {v : Value} (ho : ops[i]? = some o) (hd : o.dst = some d) (hv : evVal P n f h o.op = some v) (hf : f d = v) (k : Rk P n ops f h r) : Rk P n ops f h (i :: r) :=
 Rk_cons k fun t ht o' ho' _ _ => by
  rw [ho] at ho'; cases ho'
  exact ⟨v, hv, fun d' hd' => by rw [hd] at hd'; cases hd'; exact hf⟩
theorem Rk.re {t : T Value} {l : List Nat} (k : Rk P n ops f h l) (ht : fr t = f) : recheck P n ops l t h = true := by
 unfold recheck
 rw [List.all_eq_true]
 intro i hi
 cases ho : ops[i]? with
 | none => rfl
 | some o =>
  dsimp only
  split
  · rename_i hk
    split
    · rename_i hw
      obtain ⟨v, hv, hd⟩ := k t ht i hi o ho hk hw
      rw [aVal_ev, ht, hv]
      cases hdd : o.dst with
      | none => rfl
      | some d =>
       dsimp only
       rw [Bool.or_eq_true]
       refine .inr (propB_true ?_)
       have := hd d hdd
       rw [← ht] at this
       exact this.symm
    · rfl
  · rfl
end
variable [Kn P]
def D (P : Program) [Kn P] (n : Nat) (ops : Array Oper) (Q : Post) (ls ms : List Nat) (k L : Nat) (seen : List Nat) (f : Fr) (h : AH) : Prop :=
 ∀ t, fr t = f → RX (aLv P (eRun P) n ops ls ms k L seen t h) fun p => Q .normal (fr p.1) p.2
theorem D_last {k lv : Nat} {seen l : List Nat} (hN : lvN ops ls lv = l) (hE : lvE ops ls lv = none) (hn : N P n ops (fun f1 h1 => Rk P n ops f1 h1 (seen ++ l) ∧ Q .normal f1 h1) l f h) : D P n ops Q ls ms (k + 1) lv seen f h := by
 intro t ht
 obtain ⟨t1, h1, e, hr, hq⟩ := hn t ht
 simp only [aLv]
 rw [hN, e]
 dsimp only
 rw [if_pos (hr.re rfl)]
 unfold aCont
 rw [hE]
 exact RX_one hq
theorem D_eff {k lv e : Nat} {seen l s' : List Nat} (hN : lvN ops ls lv = l) (hE : lvE ops ls lv = some e) (ho : ops[e]? = some o) (hs : ((seen ++ l).filter fun i => !(ms.getD e 0).testBit i) = s')
  (hn : N P n ops (fun f1 h1 => Rk P n ops f1 h1 (seen ++ l) ∧ L P n ops (fun ex f2 h2 => ex = .normal ∧ D P n ops Q ls ms k (lv + 1) s' f2 h2) [o] f1 h1) l f h) : D P n ops Q ls ms (k + 1) lv seen f h := by
 intro t ht
 obtain ⟨t1, h1, e1, hr, hq⟩ := hn t ht
 simp only [aLv]
 rw [hN, e1]
 dsimp only
 rw [if_pos (hr.re rfl)]
 unfold aCont
 rw [hE]
 dsimp only
 rw [ho]
 dsimp only
 rw [hN, hs]
 obtain ⟨m, hm, hall⟩ := hq trivial t1 rfl
 have hm : opsStep P (eRun P) n ops o (aOps P (eRun P) n ops []) t1 h1 = some m := hm
 unfold opsStep at hm
 cases hw : aWant n t1 ops o with
 | true =>
  rw [hw] at hm
  dsimp only at hm
  rw [if_pos rfl]
  obtain ⟨lx, hx, hax⟩ := bindL_spec hm
  refine RX_bind ⟨lx, hx, fun p hp => ?_⟩
  obtain ⟨la, hla, hsub⟩ := hax p hp
  cases hpt : aPut n t1 o.dst p.1 with
  | none => rw [hpt] at hla; cases hla
  | some t2 =>
   rw [hpt] at hla
   have hla : some [(t2, p.2)] = some la := hla
   cases hla
   exact (hall _ (hsub _ (List.mem_singleton.2 rfl))).2 t2 rfl
 | false =>
  rw [hw] at hm
  dsimp only at hm
  rw [if_neg Bool.false_ne_true]
  cases hpt : aPut n t1 o.dst undef with
  | none => rw [hpt] at hm; cases hm
  | some t2 =>
   rw [hpt] at hm
   have hm : some [(t2, h1)] = some m := hm
   cases hm
   exact (hall _ (List.mem_singleton.2 rfl)).2 t2 rfl
theorem W_drawn {id : Nat} {l : List Oper} (hp : planOk n l.toArray (levL l.toArray) (maskL l.toArray) = true) (hd : D P n l.toArray Q (levL l.toArray) (maskL l.toArray) (l.toArray.size + 1) 0 [] f h) : W P n (.region id l.toArray true) Q f h := by
 intro hn t ht
 rw [eCode_region _ _ _ _ (fun _ => hp)]
 refine RX_bind ?_
 show RX (aDraw P (eRun P) n l.toArray t h) _
 unfold aDraw
 rw [if_pos hp]
 exact RX_mono (hd t ht) fun p q => RX_one ⟨rfl, q⟩
end
end Go.Arm
namespace Go.Arm
noncomputable section
open Go Go.X
variable {P : Program} {h h' h'' : AH} {S S' : Nat → Prop} {b o : Nat} {l : List Value} {v : Value}
structure Sm (S : Nat → Prop) (h h' : AH) : Prop where
 nx : h.next ≤ h'.next
 get : ∀ k, k < h.next → ¬ S k → h'.m.get k = h.m.get k
def Nix : Nat → Prop := fun _ => False
theorem Sm.refl : Sm S h h := ⟨Nat.le_refl _, fun _ _ _ => rfl⟩
theorem Sm.trans (s : Sm S h h') (k : Sm S' h' h'') (hs : ∀ x, S' x → S x ∨ h.next ≤ x) : Sm S h h'' :=
 ⟨Nat.le_trans s.nx k.nx, fun x hx hn => (k.get x (Nat.lt_of_lt_of_le hx s.nx) (fun hm => (hs x hm).elim hn (fun y => by omega))).trans (s.get x hx hn)⟩
theorem Sm.mono (s : Sm S h h') (hs : ∀ x, S x → S' x) : Sm S' h h' := ⟨s.nx, fun x hx hn => s.get x hx (fun k => hn (hs x k))⟩
theorem Sm.ext (s : Sm S h h') (k : Sm Nix h' h'') : Sm S h h'' := s.trans k (fun _ x => x.elim)
theorem Sm.then (s : Sm S h h') (k : Sm S h' h'') : Sm S h h'' := s.trans k (fun _ x => .inl x)
theorem Sm.push (h : AH) (x : AObj) : Sm Nix h (h.push x) :=
 ⟨Nat.le_succ _, fun k hk _ => by show (h.m.set h.next (some x)).get k = _; rw [T.get_set, if_neg (by omega)]⟩
theorem push_get (h : AH) (x : AObj) : (h.push x).m.get h.next = some x := by
 show (h.m.set h.next (some x)).get h.next = _
 rw [T.get_set, if_pos rfl]
def Cl (h : AH) (b : Nat) (l : List Value) : Prop := b < h.next ∧ ∃ c op, h.m.get b = some (.cells c l.length op false) ∧ ∀ k, k < l.length → c.get k = l[k]?
theorem Cl.lt (hc : Cl h b l) : b < h.next := hc.1
theorem Cl.sm (hc : Cl h b l) (s : Sm S h h') (hb : ¬ S b) : Cl h' b l := by
 obtain ⟨h1, c, op, h2, h3⟩ := hc
 exact ⟨Nat.lt_of_lt_of_le h1 s.nx, c, op, (s.get b h1 hb).trans h2, h3⟩
theorem Cl.ext (hc : Cl h b l) (s : Sm Nix h h') : Cl h' b l := hc.sm s (fun x => x)
theorem Cl.new (h : AH) (l : List Value) : Cl (h.push (.cells (T.fill l 0 .e) l.length o false)) h.next l :=
 ⟨Nat.lt_succ_self _, _, _, push_get _ _, fun k hk => by rw [T.get_fill, if_pos (by omega)]; simp⟩
theorem Cl.cell (hc : Cl h b l) (ho : l[o]? = some v) : h.cell ⟨b, o, none⟩ = some v := by
 obtain ⟨h1, c, op, h2, h3⟩ := hc
 have hl := (List.getElem?_eq_some_iff.1 ho).1
 unfold AH.cell
 simp only [h2]
 rw [if_pos hl, h3 o hl, ho]
theorem Cl.set (hc : Cl h b l) (ho : o < l.length) (v : Value) : ∃ h', h.setc ⟨b, o, none⟩ v = some h' ∧ Cl h' b (l.set o v) ∧ Sm (fun k => k = b) h h' ∧ h'.next = h.next := by
 obtain ⟨h1, c, op, h2, h3⟩ := hc
 refine ⟨⟨h.m.set b (some (.cells (c.set o (some v)) l.length op false)), h.next⟩, ?_, ⟨h1, c.set o (some v), op, ?_, fun k hk => ?_⟩, ⟨Nat.le_refl _, fun k _ hk => ?_⟩, rfl⟩
 · unfold AH.setc
   simp only [h2]
   rw [if_pos ho]
 · show (h.m.set b _).get b = _
   rw [T.get_set, if_pos rfl, List.length_set]
 · rw [List.length_set] at hk
   rw [T.get_set, List.getElem?_set]
   by_cases e : k = o
   · subst e; rw [if_pos rfl, if_pos rfl, if_pos hk]
   · rw [if_neg e, if_neg (fun e2 => e e2.symm)]; exact h3 k hk
 · show (h.m.set b _).get k = _
   rw [T.get_set, if_neg hk]
theorem Cl.cells (hc : Cl h b l) : ∀ (n i : Nat), o + i + n ≤ l.length → h.cells ⟨b, o, none⟩ i n = some ((l.drop (o + i)).take n)
 | 0, i, _ => by simp [AH.cells]
 | n + 1, i, hn => by
  have hl : o + i < l.length := by omega
  have e1 : h.cell ⟨b, o + i, none⟩ = some l[o + i] := hc.cell (List.getElem?_eq_getElem hl)
  have ih := Cl.cells hc n (i + 1) (by omega)
  unfold AH.cells
  dsimp only
  rw [e1, ih, List.drop_eq_getElem_cons hl]
  simp [Nat.add_assoc]
section
variable {T : TypeId} {d : TypeDesc} {k : Nat}
theorem Cl.load (hc : Cl h b l) (hT : P.underlying T = some d) (hd : isAg d = false) (ho : l[o]? = some v) : aLoad P T ⟨b, o, none⟩ h = some v := by
 unfold aLoad
 simp only [hT, hd]
 exact hc.cell ho
theorem Cl.loadS (hc : Cl h b l) (hT : P.underlying T = some d) (hd : isAg d = true) (hz : szOf P T = some k) (ho : o + k ≤ l.length) : aLoad P T ⟨b, o, none⟩ h = some (.agg ⟨(l.drop o).take k⟩) := by
 have := hc.cells (o := o) k 0 (by omega)
 unfold aLoad
 simp only [hT, hd, if_true, hz]
 rw [this]; rfl
theorem Cl.setcs : ∀ {vs : List Value} {i : Nat} {h : AH} {l : List Value}, Cl h b l → o + i + vs.length ≤ l.length → (∀ v, v ∈ vs → v.oneCell' = true) →
  ∃ h', h.setcs ⟨b, o, none⟩ i vs = some h' ∧ Cl h' b (l.take (o + i) ++ vs ++ l.drop (o + i + vs.length)) ∧ Sm (fun k => k = b) h h' ∧ h'.next = h.next
 | [], i, h, l, hc, hl, _ => ⟨h, rfl, by simpa using hc, .refl, rfl⟩
 | v :: vs, i, h, l, hc, hl, h1 => by
  simp only [List.length_cons] at hl
  obtain ⟨h2, e1, c1, s1, n1⟩ := hc.set (o := o + i) (by omega) v
  obtain ⟨h3, e2, c2, s2, n2⟩ := Cl.setcs (vs := vs) (i := i + 1) c1 (by rw [List.length_set]; omega) (fun u hu => h1 u (List.mem_cons_of_mem _ hu))
  refine ⟨h3, ?_, ?_, s1.then s2, n2.trans n1⟩
  · unfold AH.setcs
    rw [if_pos (h1 v (by simp))]
    dsimp only
    rw [e1]
    exact e2
  · have e : (l.set (o + i) v).take (o + (i + 1)) ++ vs ++ (l.set (o + i) v).drop (o + (i + 1) + vs.length) = l.take (o + i) ++ (v :: vs) ++ l.drop (o + i + (v :: vs).length) := by
     have hlt : o + i < l.length := by omega
     rw [show o + (i + 1) = o + i + 1 by omega, List.take_succ_eq_append_getElem (by rw [List.length_set]; exact hlt), List.take_set_of_le (Nat.le_refl _), List.getElem_set_self, List.drop_set_of_lt (by omega)]
     simp [Nat.add_assoc, Nat.add_comm 1]
    rw [← e]; exact c2
theorem Cl.store (hc : Cl h b l) (hz : szOf P T = some 1) (hv : cellsL v = [v]) (h1 : v.oneCell' = true) (ho : o < l.length) :
  ∃ h', aStore P T ⟨b, o, none⟩ v h = some h' ∧ Cl h' b (l.set o v) ∧ Sm (fun k => k = b) h h' ∧ h'.next = h.next := by
 obtain ⟨h2, e1, c1, s1, n1⟩ := hc.set ho v
 refine ⟨h2, ?_, c1, s1, n1⟩
 unfold aStore
 simp only [hz, hv, List.length_singleton, if_true]
 unfold AH.setcs
 rw [if_pos h1]
 dsimp only
 rw [Nat.add_zero, e1]
 rfl
theorem Cl.storeS {cs : List Value} (hc : Cl h b l) (hz : szOf P T = some l.length) (hv : cellsL v = cs) (hl : cs.length = l.length) (h1 : ∀ v, v ∈ cs → v.oneCell' = true) :
   ∃ h', aStore P T ⟨b, 0, none⟩ v h = some h' ∧ Cl h' b cs ∧ Sm (fun k => k = b) h h' ∧ h'.next = h.next := by
 obtain ⟨h2, e1, c1, s1, n1⟩ := Cl.setcs (o := 0) (vs := cs) (i := 0) hc (by omega) h1
 refine ⟨h2, ?_, ?_, s1, n1⟩
 · unfold aStore
   simp only [hz, hv, hl, if_true]
   exact e1
 · simpa [hl] using c1
end
end
end Go.Arm
namespace Go.Arm
noncomputable section
open Go Go.X
variable {P : Program} {h h' : AH} {S : Nat → Prop} {b : Nat}
theorem pureRun_and {α β : Type} {e : Sem α} {f : α → Sem β} {a : α} {c : β} (h1 : pureRun P e = some a) (h2 : pureRun P (f a) = some c) : pureRun P (e >>= f) = some c := by
 show pureRun P (Sem.bind e f) = some c
 induction e with
 | pure x => simp only [pureRun] at h1; cases h1; exact h2
 | program k ih => simp only [pureRun] at h1; exact ih P h1
 | mark m k ih => simp only [pureRun] at h1; exact ih h1
 | _ => simp [pureRun] at h1
section
variable {κ β : Type} [DecidableEq κ]
def kget : List (κ × β) → κ → Option β
 | [], _ => none
 | e :: r, k => if e.1 = k then some e.2 else kget r k
def kset : List (κ × β) → κ → β → List (κ × β)
 | [], k, y => [(k, y)]
 | e :: r, k, y => if e.1 = k then (k, y) :: r else e :: kset r k y
def kdel : List (κ × β) → κ → List (κ × β)
 | [], _ => []
 | e :: r, k => if e.1 = k then r else e :: kdel r k
end
structure KeyK (P : Program) (kt : TypeId) {κ : Type} [DecidableEq κ] (kv : κ → Value) : Prop where
 pf : ∀ k, pfv (kv k) = true
 chk : ∀ e k, aCheckKey P e kt (kv k) = true
 find : ∀ (k : κ) (ks : List κ), pureRun P (Instr.findKey kt (kv k) (ks.map fun x => (⟨kv x, .nilIface, 0⟩ : MapEntry))) = some ((ks.findIdx? fun x => decide (x = k)).map fun i => (i, Value.nilIface))
 stay : ∀ k, stays (kv k) (kv k) = true
theorem findIdx_cons {κ : Type} [DecidableEq κ] (x k : κ) (ks : List κ) : (x :: ks).findIdx? (fun y => decide (y = k)) = if x = k then some 0 else (ks.findIdx? fun y => decide (y = k)).map (· + 1) := by
 rw [List.findIdx?_cons]
 by_cases e : x = k
 · simp [e]
 · simp [e]
theorem KeyK.int {kt : TypeId} {kd : IntKind} (hu : P.underlying kt = some (.int kd)) (hc : ∀ e k, aCheckKey P e kt (.int kd k) = true) : KeyK P kt (fun k : Int => Value.int kd k) := by
 refine ⟨fun k => rfl, hc, fun k ks => ?_, fun k => ?_⟩
 · have key : ∀ (ks : List Int) (j : Nat), Instr.findNow (.int kd) (.int kd k) (ks.map fun x => (⟨.int kd x, .nilIface, 0⟩ : MapEntry)) j = some ((ks.findIdx? fun x => decide (x = k)).map fun i => (j + i, Value.nilIface)) := by
    intro ks
    induction ks with
    | nil => intro j; rfl
    | cons x ks ih =>
     intro j
     rw [findIdx_cons, List.map_cons, Instr.findNow]
     by_cases e : x = k
     · subst e
       simp [Instr.sameNow]
     · have : Instr.sameNow (.int kd) (.int kd k) (.int kd x) = some false := by simp [Instr.sameNow]; exact fun h => e h.symm
       simp only [this]
       rw [ih (j + 1), if_neg e]
       cases (ks.findIdx? fun x => decide (x = k)) with
       | none => rfl
       | some i => simp; omega
   unfold Instr.findKey
   refine pureRun_and (a := .int kd) (by simp only [underlying]; exact pureRun_and (e := Sem.program .pure) (a := P) rfl (by simp only [hu]; rfl)) ?_
   rw [key ks 0]
   simp only [Nat.zero_add]
   rfl
 · unfold stays; rw [Instr.sameBits]; simp
end
end Go.Arm
namespace Go.Arm
noncomputable section
open Go Go.X
variable {P : Program} {h h' : AH} {S : Nat → Prop} {b : Nat} {κ β : Type} [DecidableEq κ] {kv : κ → Value} {R R' : Value → β → Prop} {m : List (κ × β)}
inductive Mr {κ β : Type} (kv : κ → Value) (R : Value → β → Prop) : List (Value × Value × Nat) → List (κ × β) → Prop
 | nil : Mr kv R [] []
 | cons {e : Value × Value × Nat} {x : κ × β} {es : List (Value × Value × Nat)} {m : List (κ × β)} (hk : e.1 = kv x.1) (hv : R e.2.1 x.2) (t : Mr kv R es m) : Mr kv R (e :: es) (x :: m)
omit [DecidableEq κ] in
theorem Mr.mono {es : List (Value × Value × Nat)} (h : Mr kv R es m) (hr : ∀ v x, R v x → R' v x) : Mr kv R' es m := by
 induction h with
 | nil => exact .nil
 | cons hk hv _ ih => exact .cons hk (hr _ _ hv) ih
omit [DecidableEq κ] in
theorem Mr.length {es : List (Value × Value × Nat)} (h : Mr kv R es m) : es.length = m.length := by
 induction h with
 | nil => rfl
 | cons _ _ _ ih => simp [ih]
omit [DecidableEq κ] in
theorem Mr.keys {es : List (Value × Value × Nat)} (h : Mr kv R es m) : keysOf es = (m.map (·.1)).map fun x => (⟨kv x, .nilIface, 0⟩ : MapEntry) := by
 induction h with
 | nil => rfl
 | cons hk _ _ ih =>
  unfold keysOf at ih ⊢
  rw [List.map_cons, List.map_cons, List.map_cons, ih, hk]
theorem Mr.at {es : List (Value × Value × Nat)} (h : Mr kv R es m) (k : κ) : ((m.map (·.1)).findIdx? (fun y => decide (y = k)) = none ∧ kget m k = none ∧ (∀ v y cl, R v y → Mr kv R (es ++ [(kv k, v, cl)]) (kset m k y)) ∧ kdel m k = m) ∨
  ∃ i e x, (m.map (·.1)).findIdx? (fun y => decide (y = k)) = some i ∧ es[i]? = some e ∧ e.1 = kv k ∧ R e.2.1 x ∧ kget m k = some x ∧ (∀ v y, R v y → Mr kv R (setV es i (kv k) v) (kset m k y)) ∧ Mr kv R (es.eraseIdx i) (kdel m k) := by
 induction h with
 | nil => exact .inl ⟨rfl, rfl, fun v y cl hv => .cons rfl hv .nil, rfl⟩
 | @cons e x es m hk hv ht ih =>
  rw [List.map_cons, findIdx_cons]
  by_cases he : x.1 = k
  · refine .inr ⟨0, e, x.2, by rw [if_pos he], rfl, by rw [hk, he], hv, by unfold kget; rw [if_pos he], fun v y hvy => ?_, ?_⟩
    · unfold kset setV
      rw [if_pos he]
      exact .cons rfl hvy ht
    · unfold kdel
      rw [if_pos he]; exact ht
  · rw [if_neg he]
    rcases ih with ⟨a, c, d, g⟩ | ⟨i, e', x', a, c, d, g, j, p, q⟩
    · refine .inl ⟨by rw [a]; rfl, by unfold kget; rw [if_neg he]; exact c, fun v y cl hvy => ?_, by unfold kdel; rw [if_neg he, g]⟩
      unfold kset
      rw [if_neg he]
      exact .cons hk hv (d v y cl hvy)
    · refine .inr ⟨i + 1, e', x', by rw [a]; rfl, by simpa using c, d, g, by unfold kget; rw [if_neg he]; exact j, fun v y hvy => ?_, ?_⟩
      · unfold kset setV
        rw [if_neg he]
        exact .cons hk hv (p v y hvy)
      · unfold kdel
        rw [if_neg he, List.eraseIdx_cons_succ]
        exact .cons hk hv q
def Mp (h : AH) (b : Nat) (kv : κ → Value) (R : Value → β → Prop) (m : List (κ × β)) : Prop := b < h.next ∧ ∃ es cl, h.m.get b = some (.map es cl false) ∧ Mr kv R es m
omit [DecidableEq κ] in
theorem Mp.sm (hm : Mp h b kv R m) (s : Sm S h h') (hb : ¬ S b) (hr : ∀ v x, R v x → R' v x) : Mp h' b kv R' m := by
 obtain ⟨h1, es, cl, h2, h3⟩ := hm
 exact ⟨Nat.lt_of_lt_of_le h1 s.nx, es, cl, (s.get b h1 hb).trans h2, h3.mono hr⟩
omit [DecidableEq κ] in
theorem Mp.mono (hm : Mp h b kv R m) (hr : ∀ v x, R v x → R' v x) : Mp h b kv R' m := by
 obtain ⟨h1, es, cl, h2, h3⟩ := hm
 exact ⟨h1, es, cl, h2, h3.mono hr⟩
omit [DecidableEq κ] in
theorem Mp.new (h : AH) : Mp (h.push (.map [] 0 false)) h.next kv R ([] : List (κ × β)) := ⟨Nat.lt_succ_self _, [], 0, push_get _ _, .nil⟩
section
variable {T kt el : TypeId} {z : Value}
theorem afind_eq {es : List (Value × Value × Nat)} (hK : KeyK P kt kv) (hr : Mr kv R es m) (k : κ) : aFind P kt (kv k) es = some ((m.map (·.1)).findIdx? fun y => decide (y = k)) := by
 unfold aFind
 have hp : es.all (fun e => pfv e.1) = true := by
  rw [List.all_eq_true]
  intro e he
  clear k
  induction hr with
  | nil => cases he
  | cons hk _ _ ih =>
   rcases List.mem_cons.1 he with rfl | he
   · rw [hk]; exact hK.pf _
   · exact ih he
 rw [if_pos (by rw [hK.pf, hp]; rfl), hr.keys, hK.find]
 cases ((m.map (·.1)).findIdx? fun y => decide (y = k)) <;> rfl
theorem Mp.lookup (hT : P.underlying T = some (.map kt el)) (hK : KeyK P kt kv) (hz : zeroOf P el = some z) (hm : Mp h b kv R m) (k : κ) (c : Bool) :
   (kget m k = none ∧ aLookup P T (.map (some b)) (kv k) c h = some (tupOk c z false)) ∨ ∃ v x, kget m k = some x ∧ R v x ∧ aLookup P T (.map (some b)) (kv k) c h = some (tupOk c v true) := by
 obtain ⟨_, es, cl, h2, h3⟩ := hm
 unfold aLookup
 simp only [hT, h2, hK.chk, if_true, afind_eq hK h3]
 rcases h3.at k with ⟨a, c, _⟩ | ⟨i, e, x, a, c, d, g, j, _⟩
 · rw [a]
   dsimp only
   rw [hz]
   exact .inl ⟨c, rfl⟩
 · rw [a]
   dsimp only
   rw [c]
   exact .inr ⟨_, x, j, g, rfl⟩
theorem aSet_sm (h : AH) (b : Nat) (es : List (Value × Value × Nat)) (cl : Nat) : Sm (fun k => k = b) h (aSetMap h b es cl) :=
 ⟨Nat.le_refl _, fun k _ hk => by show (h.m.set b _).get k = _; rw [T.get_set, if_neg hk]⟩
omit [DecidableEq κ] in
theorem aSet_mp {es : List (Value × Value × Nat)} {cl : Nat} (hb : b < h.next) (hr : Mr kv R es m) : Mp (aSetMap h b es cl) b kv R m :=
 ⟨hb, es, cl, by show (h.m.set b _).get b = _; rw [T.get_set, if_pos rfl], hr⟩
theorem Mp.update {v : Value} {y : β} (hT : P.underlying T = some (.map kt el)) (hK : KeyK P kt kv) (hm : Mp h b kv R m) (k : κ) (hv : R v y) :
   ∃ h', aUpdate P T (.map (some b)) (kv k) v h = some h' ∧ Mp h' b kv R (kset m k y) ∧ Sm (fun i => i = b) h h' ∧ h'.next = h.next := by
 obtain ⟨h1, es, cl, h2, h3⟩ := hm
 unfold aUpdate
 simp only [hT, h2, hK.chk, if_true, afind_eq hK h3]
 rcases h3.at k with ⟨a, c, d, _⟩ | ⟨i, e, x, a, c, d, g, j, p, _⟩
 · rw [a]
   exact ⟨_, rfl, aSet_mp h1 (d v y cl hv), aSet_sm _ _ _ _, rfl⟩
 · rw [a]
   dsimp only
   rw [c]
   dsimp only
   rw [d, if_pos (hK.stay k)]
   exact ⟨_, rfl, aSet_mp h1 (p v y hv), aSet_sm _ _ _ _, rfl⟩
omit [DecidableEq κ] in
theorem Mp.len (hT : P.underlying T = some (.map kt el)) (hm : Mp h b kv R m) : aLen P T (.map (some b)) h = some (.int .i64 m.length) := by
 obtain ⟨_, es, cl, h2, h3⟩ := hm
 unfold aLen
 simp only [hT, h2, h3.length]
end
end
end Go.Arm
namespace Go.Arm
noncomputable section
open Go Go.X
variable {P : Program} {h h' : AH} {S : Nat → Prop} {k n : Nat} {v : Value} {cs : List Value}
def vb : Value → Option Nat
 | .slice (some a) _ _ => some a.block
 | _ => none
def Sd (h : AH) (k : Nat) (v : Value) (n : Nat) (cs : List Value) : Prop :=
 cs.length = n * k ∧ ((n = 0 ∧ ∃ a c, v = .slice a 0 c ∧ (a = none → c = 0) ∧ ∀ q, a = some q → q.block < h.next) ∨
  ∃ b o c cc nn op ro, 0 < n ∧ c ≠ 0 ∧ v = .slice (some ⟨b, o, none⟩) n c ∧ b < h.next ∧ h.m.get b = some (.cells cc nn op ro) ∧ o + n * k ≤ nn ∧ ∀ j, j < cs.length → cc.get (o + j) = cs[j]?)
theorem Sd.sm (hs : Sd h k v n cs) (s : Sm S h h') (hb : ∀ b, vb v = some b → ¬ S b) : Sd h' k v n cs := by
 obtain ⟨hl, hs⟩ := hs
 refine ⟨hl, ?_⟩
 rcases hs with ⟨h0, a, c, e, h1, h2⟩ | ⟨b, o, c, cc, nn, op, ro, h0, h1, rfl, h2, h3, h4, h5⟩
 · exact .inl ⟨h0, a, c, e, h1, fun q hq => Nat.lt_of_lt_of_le (h2 q hq) s.nx⟩
 · exact .inr ⟨b, o, c, cc, nn, op, ro, h0, h1, rfl, Nat.lt_of_lt_of_le h2 s.nx, (s.get b h2 (hb b rfl)).trans h3, h4, h5⟩
theorem Sd.ext (hs : Sd h k v n cs) (s : Sm Nix h h') : Sd h' k v n cs := hs.sm s (fun _ _ x => x)
theorem Sd.lt (hs : Sd h k v n cs) {b : Nat} (hb : vb v = some b) : b < h.next := by
 rcases hs.2 with ⟨_, a, c, rfl, _, h2⟩ | ⟨b', o, c, cc, nn, op, ro, h0, h1, rfl, h2, _⟩
 · cases a with
   | none => cases hb
   | some q => cases hb; exact h2 q rfl
 · cases hb; exact h2
theorem Sd.nil : Sd h k (.slice none 0 0) 0 [] := ⟨by simp, .inl ⟨rfl, none, 0, rfl, fun _ => rfl, (fun q hq => by cases hq)⟩⟩
theorem Sd.form (hs : Sd h k v n cs) : ∃ a c, v = .slice a n c := by
 rcases hs.2 with ⟨h0, a, c, e, _⟩ | ⟨b, o, c, cc, nn, op, ro, h0, h1, e, _⟩
 · subst h0; exact ⟨a, c, e⟩
 · exact ⟨_, c, e⟩
theorem cells_of {b o nn op : Nat} {cc : T Value} {ro : Bool} (hb : h.m.get b = some (.cells cc nn op ro)) : ∀ (m i : Nat) (ds : List Value), ds.length = m → o + i + m ≤ nn → (∀ j, j < m → cc.get (o + i + j) = ds[j]?) → h.cells ⟨b, o, none⟩ i m = some ds
 | 0, i, ds, hl, _, _ => by
  rw [List.length_eq_zero_iff.1 hl]; rfl
 | m + 1, i, ds, hl, hn, hj => by
  match ds, hl with
  | d :: ds, hl =>
   have e1 : h.cell ⟨b, o + i, none⟩ = some d := by
    unfold AH.cell
    simp only [hb]
    rw [if_pos (by omega)]
    have := hj 0 (by omega)
    simpa using this
   have ih := cells_of (o := o) hb m (i + 1) ds (by simpa using hl) (by omega) (fun j hjm => by
    have := hj (j + 1) (by omega)
    rw [show o + (i + 1) + j = o + i + (j + 1) by omega]
    simpa using this)
   unfold AH.cells
   dsimp only
   rw [e1, ih]
theorem Sd.first (hs : Sd h k v n cs) : aFirst k n v h = some cs := by
 obtain ⟨hl, hs⟩ := hs
 rcases hs with ⟨h0, a, c, rfl, h1, _⟩ | ⟨b, o, c, cc, nn, op, ro, h0, h1, rfl, h2, h3, h4, h5⟩
 · subst h0
   have : cs = [] := List.length_eq_zero_iff.1 (by simpa using hl)
   subst this
   cases a with
   | none => rfl
   | some q => simp [aFirst]
 · unfold aFirst
   dsimp only
   rw [if_neg (by omega), if_neg (by omega)]
   exact cells_of h3 (n * k) 0 cs hl (by omega) (fun j hj => by rw [Nat.add_zero]; exact h5 j (by omega))
section
variable {T el : TypeId} {d : TypeDesc}
theorem Sd.len (hT : P.underlying T = some (.slice el)) (hs : Sd h k v n cs) : aLen P T v h = some (.int .i64 n) := by
 obtain ⟨a, c, rfl⟩ := hs.form
 unfold aLen
 simp only [hT]
theorem Sd.at (hT : P.underlying T = some (.slice el)) (hk : szOf P el = some k) (hs : Sd h k v n cs) {i : Nat} (hi : i < n) (kd : IntKind) :
   ∃ b o, vb v = some b ∧ aIndex P T v (.int kd i) = some (.pointer (some ⟨b, o, none⟩)) ∧ ∀ j, j < k → h.cell ⟨b, o + j, none⟩ = cs[i * k + j]? := by
 obtain ⟨hl, hs⟩ := hs
 rcases hs with ⟨h0, _⟩ | ⟨b, o, c, cc, nn, op, ro, h0, h1, rfl, h2, h3, h4, h5⟩
 · omega
 · refine ⟨b, o + i * k, rfl, ?_, fun j hj => ?_⟩
   · unfold aIndex
     simp only [hT, hk]
     rw [if_pos ⟨h1, by omega, by omega⟩]
     simp
   · have hlt : (i + 1) * k ≤ n * k := Nat.mul_le_mul_right _ hi
     rw [Nat.succ_mul] at hlt
     unfold AH.cell
     simp only [h3]
     rw [if_pos (by omega), Nat.add_assoc, h5 _ (by omega)]
end
def Gr (h : AH) (k : Nat) (v : Value) (n : Nat) (cs : List Value) : Prop :=
 cs.length = n * k ∧ ((n = 0 ∧ (v = .slice none 0 0 ∨ ∃ a, v = .slice (some a) 0 0 ∧ a.block < h.next)) ∨
  ∃ b o cc nn, v = .slice (some ⟨b, o, none⟩) n open_ ∧ b < h.next ∧ h.m.get b = some (.cells cc nn k false) ∧ 0 < k ∧ o + n * k ≤ nn ∧ ∀ j, j < cs.length → cc.get (o + j) = cs[j]?)
theorem open_ne : open_ ≠ 0 := by decide
theorem Gr.sd (hg : Gr h k v n cs) : Sd h k v n cs := by
 obtain ⟨hl, hg⟩ := hg
 refine ⟨hl, ?_⟩
 rcases hg with ⟨h0, rfl | ⟨a, rfl, ha⟩⟩ | ⟨b, o, cc, nn, rfl, h2, h3, h4, h5, h6⟩
 · exact .inl ⟨h0, none, 0, rfl, fun _ => rfl, (fun q hq => by cases hq)⟩
 · exact .inl ⟨h0, some a, 0, rfl, (fun h => by cases h), (fun q hq => by cases hq; exact ha)⟩
 · by_cases hn : n = 0
   · subst hn
     exact .inl ⟨rfl, _, _, rfl, (fun h => by cases h), (fun q hq => by cases hq; exact h2)⟩
   · exact .inr ⟨b, o, _, cc, nn, k, false, by omega, open_ne, rfl, h2, h3, h5, h6⟩
theorem Gr.sm (hg : Gr h k v n cs) (s : Sm S h h') (hb : ∀ b, vb v = some b → ¬ S b) : Gr h' k v n cs := by
 obtain ⟨hl, hg⟩ := hg
 refine ⟨hl, ?_⟩
 rcases hg with ⟨h0, h1 | ⟨a, h1, ha⟩⟩ | ⟨b, o, cc, nn, rfl, h2, h3, h4, h5, h6⟩
 · exact .inl ⟨h0, .inl h1⟩
 · exact .inl ⟨h0, .inr ⟨a, h1, Nat.lt_of_lt_of_le ha s.nx⟩⟩
 · exact .inr ⟨b, o, cc, nn, rfl, Nat.lt_of_lt_of_le h2 s.nx, (s.get b h2 (hb b rfl)).trans h3, h4, h5, h6⟩
theorem Gr.ext (hg : Gr h k v n cs) (s : Sm Nix h h') : Gr h' k v n cs := hg.sm s (fun _ _ x => x)
theorem Gr.nil : Gr h k (.slice none 0 0) 0 [] := ⟨by simp, .inl ⟨rfl, .inl rfl⟩⟩
theorem setcs_of {b o nn op : Nat} : ∀ (ds : List Value) (i : Nat) {h : AH} {cc : T Value}, h.m.get b = some (.cells cc nn op false) → o + i + ds.length ≤ nn → (∀ v, v ∈ ds → v.oneCell' = true) →
  ∃ h' cc', h.setcs ⟨b, o, none⟩ i ds = some h' ∧ h'.m.get b = some (.cells cc' nn op false) ∧ (∀ j, cc'.get j = if o + i ≤ j ∧ j < o + i + ds.length then ds[j - (o + i)]? else cc.get j) ∧ h'.next = h.next ∧ ∀ x, x ≠ b → h'.m.get x = h.m.get x
 | [], i, h, cc, hb, _, _ => ⟨h, cc, rfl, hb, fun j => by rw [if_neg (by simp only [List.length_nil]; omega)], rfl, fun _ _ => rfl⟩
 | d :: ds, i, h, cc, hb, hl, h1 => by
  simp only [List.length_cons] at hl
  have e1 : h.setc ⟨b, o + i, none⟩ d = some { h with m := h.m.set b (some (.cells (cc.set (o + i) (some d)) nn op false)) } := by
    unfold AH.setc
    simp only [hb]
    rw [if_pos (by omega)]
  obtain ⟨h', cc', a1, a2, a3, a4, a5⟩ := setcs_of (o := o) ds (i + 1) (h := { h with m := h.m.set b (some (.cells (cc.set (o + i) (some d)) nn op false)) }) (cc := cc.set (o + i) (some d)) (by rw [T.get_set, if_pos rfl]) (by omega) (fun u hu => h1 u (List.mem_cons_of_mem _ hu))
  refine ⟨h', cc', ?_, a2, fun j => ?_, a4, fun x hx => ?_⟩
  · unfold AH.setcs
    rw [if_pos (h1 d (by simp))]
    dsimp only
    rw [e1]
    exact a1
  · rw [a3, T.get_set]
    simp only [List.length_cons]
    by_cases hj : j = o + i
    · subst hj
      rw [if_neg (by omega), if_pos rfl, if_pos (by omega)]; simp
    · rw [if_neg hj]
      by_cases h2 : o + (i + 1) ≤ j ∧ j < o + (i + 1) + ds.length
      · rw [if_pos h2, if_pos (by omega), show j - (o + i) = (j - (o + (i + 1))) + 1 by omega]; simp
      · rw [if_neg h2, if_neg (by omega)]
  · rw [a5 x hx]
    show (h.m.set b _).get x = _
    rw [T.get_set, if_neg hx]
theorem newo_gr (h : AH) {ds : List Value} (hk : 0 < k) (hl : ds.length = n * k) (_h0 : 0 < n) : ∃ h', h.newo ds k = some (h.next, h') ∧ Gr h' k (.slice (some ⟨h.next, 0, none⟩) n open_) n ds ∧ h'.next = h.next + 1 ∧ ∀ x, x ≠ h.next → h'.m.get x = h.m.get x := by
 refine ⟨⟨h.m.set h.next (some (.cells (T.fill ds 0 .e) ds.length k false)), h.next + 1⟩, ?_, ⟨hl, .inr ⟨h.next, 0, T.fill ds 0 .e, ds.length, rfl, Nat.lt_succ_self _, ?_, hk, by omega, fun j hj => ?_⟩⟩, rfl, fun x hx => ?_⟩
 · unfold AH.newo
   rw [if_pos (decide_eq_true hk)]
   rfl
 · show (h.m.set h.next _).get h.next = _
   rw [T.get_set, if_pos rfl]
 · rw [T.get_fill, if_pos (by omega)]; simp
 · show (h.m.set h.next _).get x = _
   rw [T.get_set, if_neg hx]
theorem Gr.appendTo {m : Nat} {ds : List Value} (hk : 0 < k) (hg : Gr h k v n cs) (hl : ds.length = m * k) (h1 : ∀ x, x ∈ ds → x.oneCell' = true) :
   ∃ v' h', aAppendTo k v m ds h = some (v', h') ∧ Gr h' k v' (n + m) (cs ++ ds) ∧ Sm (fun b => vb v = some b) h h' ∧ ∀ b, vb v' = some b → vb v = some b ∨ h.next ≤ b := by
 obtain ⟨hcl, hg⟩ := hg
 by_cases hm : m = 0
 · subst hm
   have : ds = [] := List.length_eq_zero_iff.1 (by simpa using hl)
   subst this
   refine ⟨v, h, ?_, ⟨by simpa using hcl, by simpa using hg⟩, .refl, fun b hb => .inl hb⟩
   rcases hg with ⟨h0, rfl | ⟨a, rfl, ha⟩⟩ | ⟨b, o, cc, nn, rfl, h2, h3, h4, h5, h6⟩
   · simp [aAppendTo]
   · unfold aAppendTo
     dsimp only
     rw [if_neg (show ¬ (0 : Nat) = open_ by decide), if_pos (by omega), if_pos rfl]
   · unfold aAppendTo
     dsimp only
     rw [if_pos rfl]
     unfold opOf
     simp only [h3, if_true]
     rw [if_pos (by simpa using h5)]
     rfl
 · rcases hg with ⟨h0, rfl | ⟨a, rfl, ha⟩⟩ | ⟨b, o, cc, nn, rfl, h2, h3, h4, h5, h6⟩
   · subst h0
     have : cs = [] := List.length_eq_zero_iff.1 (by simpa using hcl)
     subst this
     obtain ⟨h', e, g, n1, o1⟩ := newo_gr h hk hl (by omega)
     refine ⟨_, h', ?_, by simpa using g, ⟨by omega, fun x hx _ => o1 x (by omega)⟩, fun b hb => by cases hb; exact .inr (Nat.le_refl _)⟩
     simp [aAppendTo, hm, e]
   · subst h0
     have : cs = [] := List.length_eq_zero_iff.1 (by simpa using hcl)
     subst this
     obtain ⟨h', e, g, n1, o1⟩ := newo_gr h hk hl (by omega)
     refine ⟨_, h', ?_, by simpa using g, ⟨by omega, fun x hx _ => o1 x (by omega)⟩, fun b hb => by cases hb; exact .inr (Nat.le_refl _)⟩
     unfold aAppendTo
     dsimp only
     rw [if_neg (show ¬ (0 : Nat) = open_ by decide), if_neg (by omega), if_pos rfl]
     simp only [List.nil_append, e, Nat.zero_add]
   · by_cases hroom : o + (n + m) * k ≤ nn
     · obtain ⟨h', cc', a1, a2, a3, a4, a5⟩ := setcs_of (o := o) ds (n * k) h3 (by rw [hl, Nat.add_assoc, ← Nat.add_mul]; exact hroom) h1
       refine ⟨_, h', ?_, ⟨by rw [List.length_append, hcl, hl, Nat.add_mul], .inr ⟨b, o, cc', nn, rfl, by omega, a2, hk, hroom, fun j hj => ?_⟩⟩, ⟨by omega, fun x hx hn => a5 x (fun e => hn (by rw [e]; rfl))⟩, fun x hx => .inl hx⟩
       · unfold aAppendTo
         dsimp only
         rw [if_pos rfl]
         unfold opOf
         simp only [h3, if_true]
         rw [if_pos hroom, a1]
       · rw [List.length_append] at hj
         rw [a3]
         by_cases hlt : j < cs.length
         · rw [if_neg (by omega), List.getElem?_append_left hlt]; exact h6 j hlt
         · rw [if_pos (by omega), List.getElem?_append_right (by omega)]
           congr 1; omega
     · have hold : h.cells ⟨b, o, none⟩ 0 (n * k) = some cs := cells_of h3 (n * k) 0 cs hcl (by omega) (fun j hj => by rw [Nat.add_zero]; exact h6 j (by omega))
       obtain ⟨h', e, g, n1, o1⟩ := newo_gr ({ h with m := h.m.set b none } : AH) (ds := cs ++ ds) (n := n + m) hk (by rw [List.length_append, hcl, hl, Nat.add_mul]) (by omega)
       have n1 : h'.next = h.next + 1 := n1
       refine ⟨_, h', ?_, g, ⟨by omega, fun x hx hn => ?_⟩, fun x hx => by cases hx; exact .inr (Nat.le_refl _)⟩
       · unfold aAppendTo
         dsimp only
         rw [if_pos rfl]
         unfold opOf
         simp only [h3, if_true]
         rw [if_neg hroom, hold]
         dsimp only [tagOf]
         rw [e]
       · rw [o1 x (by show x ≠ h.next; omega)]
         show (h.m.set b none).get x = _
         rw [T.get_set, if_neg (fun e => hn (by rw [e]; rfl))]
section
variable {sT xT el : TypeId} {by_ : Nat} {z u : Value}
theorem Gr.append {m : Nat} {ds : List Value} (hT : P.underlying sT = some (.slice el)) (hx : newsK P xT = .list) (hs : szOf P el = some k) (hb : byOf P el = some by_) (hz : zeroOf P el = some z) (hzl : (cellsL z).length = k) (hk : 0 < k)
  (hg : Gr h k v n cs) (hu : Sd h k u m ds) (h1 : ∀ x, x ∈ ds → x.oneCell' = true) (hlim : (n + m) * (by_ + 1) < 1099511627776) (hu8 : isU8 P el = none := by kernel_rfl) :
  ∃ v' h', aAppend P sT xT v u h = some (v', h') ∧ Gr h' k v' (n + m) (cs ++ ds) ∧ Sm (fun b => vb v = some b) h h' ∧ ∀ b, vb v' = some b → vb v = some b ∨ h.next ≤ b := by
 obtain ⟨v', h', e, g⟩ := hg.appendTo hk hu.1 h1
 refine ⟨v', h', ?_, g⟩
 obtain ⟨a, c, rfl⟩ := hg.sd.form
 obtain ⟨a2, c2, e2⟩ := hu.form
 have hf := hu.first
 have hlen : lenV u = some m := by rw [e2]; rfl
 unfold aAppend
 simp only [hT, hs, hb, hz]
 unfold aNews
 simp only [hx, hlen, hf]
 have hl0 : lenV (.slice a n c) = some n := rfl
 simp only [hl0]
 rw [if_pos ⟨hzl, hu.1, by rw [List.all_eq_true]; exact h1, hlim⟩]
 rw [hu8]
 exact e
end
end
end Go.Arm
