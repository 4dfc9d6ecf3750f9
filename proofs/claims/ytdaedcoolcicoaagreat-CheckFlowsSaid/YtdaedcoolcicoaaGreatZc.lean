/- Parts of the closed evaluator. -/
import Derived.Test.YtdaedcoolcicoaaGreatZb
namespace Go.X
noncomputable section
open Go Go.RowKit
variable {w0 w w' : World} {φ φ' φ0 : Phi} {h h' h0 h1 h2 : AH} {P : Program} {n : Nat} {t t' tb t1 t2 : T Value} {ops : Array Oper} {ls ms : List Nat}

theorem fin_inv (hn : T.Ok (n)) {call : Call1} {d0 : List Deferred} {l : List (T Value × AH)} {lst : Nat → Prop} {a : Act} (hall : ∀ j, j < ops.size → lst j) (inv : Inv w0 P call n ops ls ms φ0 h0 tb d0 l lst a w) :
    ∃ t' h' φ', (t', h') ∈ l ∧ Nx φ0 φ' h0 h' ∧ R w0 φ' h' w ∧ FR φ' n t' a.tmps ∧ a.defers = d0 := by
  obtain ⟨k, L, seen, t1, h1, lo, φ, b, hcont, hsub, c, k2⟩ := inv
  have hnone : lvE ops ls L = none := by
    unfold lvE
    rw [List.find?_eq_none]
    intro e he hh
    simp only [Bool.and_eq_true, decide_eq_true_eq] at hh
    have hlt := List.mem_range.1 he
    rcases c.ld e hlt (hall e hlt) with h5 | h5
    · omega
    · rw [hh.1] at h5; cases h5.1
  unfold aCont at hcont
  rw [hnone] at hcont
  cases hcont
  refine ⟨t1, h1, φ, hsub _ (List.mem_singleton.2 rfl), c.nx, c.r, ⟨c.size, hn, fun s u hu => ?_⟩, c.df⟩
  by_cases e : ∃ j, dstAt ops j = some s
  · obtain ⟨j, hd⟩ := e
    exact c.fw s u j hu (hall j (dstAt_lt hd)) hd
  · have h5 := c.tt s (fun j hd => (e ⟨j, hd⟩).elim)
    unfold vt at h5
    rw [h5]
    exact c.fb s u hu (fun j _ hd => e ⟨j, hd⟩)
theorem draw_ok (hN : NoCount P) (hM : P.follows .mixedOrders = true) {call : Call1} (hc : CallsOk w0 P call) {id : Nat} {l : List (T Value × AH)} {a : Act} {q : Option Nat} {m : Nat} {Q : Exit → Act → World → Prop}
    (hs : aDraw P call n ops t h = some l) (hr : R w0 φ h w) (hf : FR φ n t a.tmps)
    (hQ : ∀ t' h' φ' (a' : Act) w', (t', h') ∈ l → Nx φ φ' h h' → R w0 φ' h' w' → FR φ' n t' a'.tmps → a'.defers = a.defers → Q .normal a' w') : (Code.region id ops true).wpIn (FW q) m P Q a w := by
  unfold aDraw at hs
  split at hs
  · rename_i hp
    have sp := plan_spec hp
    have hn := hf.lt
    generalize levL ops = ls at hs sp
    generalize maskL ops = ms at hs sp
    refine wpIn_region_any hM ?_
    have main : ∀ (fuel : Nat) (listed : Array Bool) (a' : Act) (w' : World), listed.size = ops.size → listed.toList.countP (fun b => !b) = fuel →
        (∀ (i : Nat) (o : Oper), listed.getD i false = true → ops[i]? = some o → ∀ j, j ∈ edgesOf o → listed.getD j false = true) →
        Inv w0 P call n ops ls ms φ h t a.defers l (fun j => listed.getD j false = true) a' w' → wpAnyIn (FW q) m P .any ops Q fuel listed a' w' := by
      intro fuel
      induction fuel with
      | zero =>
        intro listed a' w' hsz hcnt hcl inv
        have hall : ∀ j, j < ops.size → listed.getD j false = true := by
          intro j hj
          have hj' : j < listed.size := by omega
          have := List.countP_eq_zero.1 hcnt (listed[j]) (by simp)
          rw [Array.getD_eq_getD_getElem?, Array.getElem?_eq_getElem hj']
          simpa using this
        refine ⟨?_, ?_⟩
        · cases hr : Region.ready .any ops listed with
          | nil => rfl
          | cons i r =>
            have hi : i ∈ Region.ready .any ops listed := by rw [hr]; simp
            obtain ⟨h1, o, ho, _⟩ := mem_ready.1 hi
            have := hall i (Array.getElem?_eq_some_iff.1 ho).1
            have hi' : i < listed.size := by rw [hsz]; exact (Array.getElem?_eq_some_iff.1 ho).1
            rw [Array.getD_eq_getD_getElem?, Array.getElem?_eq_getElem hi'] at h1 this
            simp at h1 this
            rw [h1] at this; cases this
        · obtain ⟨t', h', φ', h1, h2, h3, h4, h5⟩ := fin_inv hn hall inv
          exact hQ t' h' φ' a' w' h1 h2 h3 h4 h5
      | succ fuel ih =>
        intro listed a' w' hsz hcnt hcl inv
        refine ⟨fun hr => ?_, fun i hi => ?_⟩
        · exfalso
          have hex : ∃ j, j < listed.size ∧ listed.getD j true = false := by
            have hpos : 0 < listed.toList.countP (fun b => !b) := by omega
            obtain ⟨x, hx, hb⟩ := List.countP_pos_iff.1 hpos
            obtain ⟨j, hj, e⟩ := List.getElem_of_mem hx
            refine ⟨j, by simpa using hj, ?_⟩
            rw [Array.getD_eq_getD_getElem?, Array.getElem?_eq_getElem (by simpa using hj)]
            simp at hb e ⊢
            rw [e, hb]
          have least : ∀ {p : Nat → Prop}, (∃ m, p m) → ∃ m, p m ∧ ∀ k, p k → m ≤ k := by
            intro p hx
            obtain ⟨m, hm⟩ := hx
            induction m using Nat.strongRecOn with
            | _ m ih =>
              by_cases hx : ∃ k, k < m ∧ p k
              · obtain ⟨k, hk, hp⟩ := hx; exact ih k hk hp
              · exact ⟨m, hm, fun k hp => by
                  rcases Nat.lt_or_ge k m with h | h
                  · exact (hx ⟨k, h, hp⟩).elim
                  · exact h⟩
          obtain ⟨j, ⟨hj, hf'⟩, hmin⟩ := least hex
          have hjo : j < ops.size := by omega
          have : j ∈ Region.ready .any ops listed := mem_ready.2 ⟨hf', ops[j], Array.getElem?_eq_getElem hjo, fun e he hb => by
            have hin : e.on ∈ edgesOf ops[j] := by
              unfold edgesOf
              exact List.mem_map.2 ⟨e, List.mem_filter.2 ⟨by simpa using he, hb⟩, rfl⟩
            have hlt := (sp.edge j _ e.on (Array.getElem?_eq_getElem hjo) hin).1
            have hl' : e.on < listed.size := by omega
            cases hv : listed.getD e.on false with
            | true => rfl
            | false =>
              have : listed.getD e.on true = false := by
                rw [Array.getD_eq_getD_getElem?, Array.getElem?_eq_getElem hl'] at hv ⊢
                simpa using hv
              have := hmin e.on ⟨hl', this⟩
              omega⟩
          rw [hr] at this; simp at this
        · obtain ⟨hun, o, ho, haft⟩ := mem_ready.1 hi
          have hil : i < listed.size := by rw [hsz]; exact (Array.getElem?_eq_some_iff.1 ho).1
          have hun' : ¬ listed.getD i false = true := by
            rw [Array.getD_eq_getD_getElem?, Array.getElem?_eq_getElem hil] at hun ⊢
            simp at hun ⊢
            exact hun
          have hrd : ∀ j, j ∈ edgesOf o → listed.getD j false = true := by
            intro j hj
            unfold edgesOf at hj
            obtain ⟨e, he, rfl⟩ := List.mem_map.1 hj
            obtain ⟨h5, h6⟩ := List.mem_filter.1 he
            exact haft e (by simpa using h5) h6
          have hset : (fun j => (listed.setIfInBounds i true).getD j false = true) = fun j => listed.getD j false = true ∨ j = i := by
            funext j
            apply propext
            by_cases e : j = i
            · subst e
              simp [Array.getD_eq_getD_getElem?, hil]
            · rw [getD_set_ne false (fun x => e x.symm)]
              simp [e]
          refine step_inv hN hc sp hn hcl inv ho hun' hrd (fun a2 w2 inv2 => ?_)
          refine ih _ a2 w2 (by simp [hsz]) ?_ ?_ (by rw [hset]; exact inv2)
          · have := countF_set hun; omega
          · intro k o' hk ho' j hj
            have h5 : listed.getD k false = true ∨ k = i := by rw [← congrFun hset k]; exact hk
            have h6 : listed.getD j false = true := by
              rcases h5 with h5 | h5
              · exact hcl k o' h5 ho' j hj
              · subst h5
                rw [ho] at ho'; cases ho'
                exact hrd j hj
            have : listed.getD j false = true ∨ j = i := .inl h6
            rw [← congrFun hset j] at this
            exact this
    have hz : ∀ j, (Array.replicate ops.size false).getD j false = false := by
      intro j
      rw [Array.getD_eq_getD_getElem?, Array.getElem?_replicate]
      split <;> rfl
    refine main _ _ a _ (by simp) ?_ (fun i o hi => by rw [hz] at hi; cases hi) ?_
    · rw [Array.toList_replicate, List.countP_replicate]
      simp
    · refine enter_inv sp hn (φ := φ) (b := fun i => 2 * i + 1) ⟨fun i _ hl => ?_, fun i _ _ hd => ?_, hr.drew, .refl φ h, hf.size, fun s u j _ hl => ?_, fun s u hu _ => hf.get s u hu, rfl, fun _ _ => rfl, fun i o _ _ hd => ?_, fun i j _ _ _ _ hd => ?_, fun i _ _ hd => ?_, fun i o _ _ hd => ?_⟩ hs (fun x hx => hx)
      · rw [hz] at hl; cases hl
      · exact (Nat.not_lt_zero _ hd).elim
      · rw [hz] at hl; cases hl
      · exact (Nat.not_lt_zero _ hd).elim
      · exact (Nat.not_lt_zero _ hd).elim
      · exact (Nat.not_lt_zero _ hd).elim
      · exact (Nat.not_lt_zero _ hd).elim
  · cases hs
end
end Go.X
namespace Go.X
noncomputable section
open Go Go.RowKit
variable {w0 w w' : World} {φ φ' : Phi} {h h' : AH} {P : Program} {n : Nat} {t : T Value}

inductive Ex where
  | normal
  | exit (id : Nat)
  | ret
inductive ExR : Ex → Exit → Prop
  | normal : ExR .normal .normal
  | exit (id : Nat) : ExR (.exit id) (.exit id)
  | ret : ExR .ret .ret
structure Out where
  ex : Ex
  t : T Value
  ds : List Nat
  h : AH
abbrev COuts := Option (List Out)
/-- Deferred marks. -/
inductive DR (φ : Phi) : List Nat → List Deferred → Prop
  | nil : DR φ [] []
  | cons {b : Nat} {i : Im} {l : List Nat} {l' : List Deferred} (hb : φ b = some i) (t : DR φ l l') : DR φ (b :: l) (⟨.collected i.c, #[]⟩ :: l')
theorem DR.mono (le : Le φ φ') {l : List Nat} {l' : List Deferred} (d : DR φ l l') : DR φ' l l' := by
  induction d with
  | nil => exact .nil
  | cons hb _ ih => exact .cons (le _ _ hb) ih
/-- What holds where code is left. -/
def Post (w0 : World) (φ : Phi) (h : AH) (n : Nat) (l : List Out) : Exit → Act → World → Prop := fun e a w =>
  ∃ o, o ∈ l ∧ ExR o.ex e ∧ ∃ φ', Nx φ φ' h o.h ∧ R w0 φ' o.h w ∧ FR φ' n o.t a.tmps ∧ DR φ' o.ds a.defers
theorem Post.sub {l l' : List Out} {e : Exit} {a : Act} (hs : ∀ o, o ∈ l → o ∈ l') (p : Post w0 φ h n l e a w) : Post w0 φ h n l' e a w := by
  obtain ⟨o, h1, r⟩ := p; exact ⟨o, hs o h1, r⟩
theorem Post.from {h0 : AH} {φ0 : Phi} {l : List Out} {e : Exit} {a : Act} (nx : Nx φ0 φ h0 h) (p : Post w0 φ h n l e a w) : Post w0 φ0 h0 n l e a w := by
  obtain ⟨o, h1, h2, φ', h3, r⟩ := p; exact ⟨o, h1, h2, φ', nx.trans h3, r⟩

/-- The loop whose round a frame is of. -/
def RoR (φ : Phi) : Option Nat → Option Nat → Prop
  | none, q => q = none
  | some b, q => ∃ i, φ b = some i ∧ q = some i.c
theorem RoR.mono (le : Le φ φ') {ro q : Option Nat} (x : RoR φ ro q) : RoR φ' ro q := by
  cases ro with
  | none => exact x
  | some b => obtain ⟨i, h1, h2⟩ := x; exact ⟨i, le _ _ h1, h2⟩

abbrev Ev := T Value → List Nat → AH → COuts
def thenX (y : Ev) (o : Out) : COuts := Ex.rec (motive := fun _ => COuts) (y o.t o.ds o.h) (fun _ => some [o]) (some [o]) o.ex
def cThen (x y : Ev) : Ev := fun t ds h => bindL (x t ds h) (thenX y)
def aLoop (body : T Value → List Nat → AH → COuts) (k : Nat) : T Value → List Nat → AH → COuts := Nat.rec (motive := fun _ => Ev) (fun _ _ _ => none) (fun _ ih => cThen body ih) k
theorem thenX_eq (y : Ev) (o : Out) : thenX y o = match o.ex with
    | .normal => y o.t o.ds o.h
    | _ => some [o] := by
  unfold thenX; cases o.ex <;> rfl
theorem aLoop_zero (body : Ev) (t : T Value) (ds : List Nat) (h : AH) : aLoop body 0 t ds h = none := rfl
theorem aLoop_succ (body : Ev) (k : Nat) (t : T Value) (ds : List Nat) (h : AH) : aLoop body (k + 1) t ds h = bindL (body t ds h) fun o => match o.ex with
    | .normal => aLoop body k o.t o.ds o.h
    | _ => some [o] := by
  show bindL (body t ds h) (thenX (aLoop body k)) = _
  congr 1; funext o; exact thenX_eq _ o
def exCode : Option Code → Option Ex
  | none => some .normal
  | some .ret => some .ret
  | some (.exit id) => some (.exit id)
  | _ => none
/-- The value of yield at a loop. -/
def yv (b : Nat) : Value := .func (.yield b) ⟨[]⟩ ⟨[]⟩
/-- Entering a range over a function: the blocks that are laid. -/
def aEnter (n : Nat) (ro : Option Nat) (t : T Value) (ps : List Tmp) (asg body : Code) (h : AH) : Option (Nat × List Nat × AH) := match ro with
  | some _ => none
  | none => (match h.newObj .dfr with
    | some (d, h1) => (match h1.newObj (.loop .ready none t n ps asg body) with
      | some (l, h2) => some (l, [d], h2)
      | none => none)
    | none => none)
theorem beq_nat {β : Type} (a b : Nat) (x y : β) : (Bool.rec (motive := fun _ => β) y x (Nat.beq a b) : β) = if a = b then x else y := T.beq_ite a b x y
def aCode0 (P : Program) (call : Call1) (n LF : Nat) (ro : Option Nat) : Code → T Value → List Nat → AH → COuts
  | .skip, t, ds, h => some [⟨.normal, t, ds, h⟩]
  | .label _, t, ds, h => some [⟨.normal, t, ds, h⟩]
  | .ret, t, ds, h => some [⟨.ret, t, ds, h⟩]
  | .exit id, t, ds, h => some [⟨.exit id, t, ds, h⟩]
  | .seq x y, t, ds, h => bindL (aCode0 P call n LF ro x t ds h) fun o => match o.ex with
    | .normal => aCode0 P call n LF ro y o.t o.ds o.h
    | _ => some [o]
  | .cond c x y, t, ds, h => match aO n t c with
    | some (.bool q) => if q then aCode0 P call n LF ro x t ds h else aCode0 P call n LF ro y t ds h
    | _ => none
  | .block id c, t, ds, h => bindL (aCode0 P call n LF ro c t ds h) fun o => match o.ex with
    | .exit k => if k = id then some [{ o with ex := .normal }] else some [o]
    | _ => some [o]
  | .loop c, t, ds, h => aLoop (aCode0 P call n LF ro c) LF t ds h
  | .region _ ops draw, t, ds, h => bindL (if draw then aDraw P call n ops t h else aOps P call n ops ops.toList t h) fun p => some [⟨.normal, p.1, ds, p.2⟩]
  | .rangeFunc f ⟨ps⟩ asg body, t, ds, h => match aO n t f with
    | some (.func (.func g) ⟨first⟩ ⟨cap⟩) => (match aEnter n ro t ps asg body h with
      | some (l, ms, h2) => (match aCallF P g (first ++ [yv l] ++ cap) h2 with
        | some [(an, h3)] => bindL (call an h3) fun p => (match p.2.m.get l with
          | some (.loop st pend ts sz ps' asg' body') => (match st, exCode pend with
            | .busy, _ => none
            | _, some ex => some [⟨ex, t, ms ++ ds, { p.2 with m := p.2.m.set l (some (.loop .exhausted pend ts sz ps' asg' body')) }⟩]
            | _, none => none)
          | _ => none)
        | _ => none)
      | none => none)
    | _ => none
  | _, _, _, _ => none

def cCond (n : Nat) (c : Operand) (x y : Ev) : Ev := fun t ds h => match aO n t c with
    | some (.bool q) => Bool.rec (motive := fun _ => COuts) (y t ds h) (x t ds h) q
    | _ => none
def outX (id : Nat) (o : Out) : COuts := match o.ex with
    | .exit k => Bool.rec (motive := fun _ => COuts) (some [o]) (some [{ o with ex := .normal }]) (Nat.beq k id)
    | _ => some [o]
def cBlock (id : Nat) (x : Ev) : Ev := fun t ds h => bindL (x t ds h) (outX id)
def cRegion (P : Program) (call : Call1) (n : Nat) (ops : Array Oper) (draw : Bool) : Ev := fun t ds h => bindL (Bool.rec (motive := fun _ => Option (List (T Value × AH))) (aOps P call n ops ops.toList t h) (aDraw P call n ops t h) draw) fun p => some [⟨.normal, p.1, ds, p.2⟩]
def aCode (P : Program) (call : Call1) (n LF : Nat) (ro : Option Nat) (c : Code) : Ev := Code.rec (motive := fun _ => Ev)
  (fun t ds h => some [⟨.normal, t, ds, h⟩])
  (fun _ ops draw => cRegion P call n ops draw)
  (fun _ _ x y => cThen x y)
  (fun c _ _ x y => cCond n c x y)
  (fun id _ x => cBlock id x)
  (fun _ x => aLoop x LF)
  (fun f ps asg body _ _ => aCode0 P call n LF ro (.rangeFunc f ps asg body))
  (fun id t ds h => some [⟨.exit id, t, ds, h⟩])
  (fun _ _ _ _ _ => none)
  (fun _ t ds h => some [⟨.normal, t, ds, h⟩])
  (fun _ _ _ _ => none)
  (fun t ds h => some [⟨.ret, t, ds, h⟩])
  (fun _ _ _ _ => none) c
theorem aCode_eq (P : Program) (call : Call1) (n LF : Nat) (ro : Option Nat) : ∀ (c : Code), aCode P call n LF ro c = aCode0 P call n LF ro c
  | .skip => rfl
  | .region _ ops draw => by
    funext t ds h
    show cRegion P call n ops draw t ds h = _
    simp only [aCode0, cRegion]
    cases draw <;> rfl
  | .seq x y => by
    funext t ds h
    show cThen (aCode P call n LF ro x) (aCode P call n LF ro y) t ds h = _
    rw [aCode_eq P call n LF ro x, aCode_eq P call n LF ro y]
    simp only [aCode0, cThen]
    congr 1; funext o; exact thenX_eq _ o
  | .cond c x y => by
    funext t ds h
    show cCond n c (aCode P call n LF ro x) (aCode P call n LF ro y) t ds h = _
    rw [aCode_eq P call n LF ro x, aCode_eq P call n LF ro y]
    simp only [aCode0, cCond]
    split
    · rename_i q _; cases q <;> rfl
    · rfl
  | .block id x => by
    funext t ds h
    show cBlock id (aCode P call n LF ro x) t ds h = _
    rw [aCode_eq P call n LF ro x]
    simp only [aCode0, cBlock]
    congr 1; funext o
    unfold outX
    split
    · rename_i k _; rw [beq_nat]
    · rfl
  | .loop x => by
    show aLoop (aCode P call n LF ro x) LF = _
    rw [aCode_eq P call n LF ro x]
    funext t ds h
    simp only [aCode0]
  | .rangeFunc f ps asg body => rfl
  | .exit _ => rfl
  | .scope _ => by funext t ds h; simp only [aCode0]; rfl
  | .label _ => rfl
  | .goto _ => by funext t ds h; simp only [aCode0]; rfl
  | .ret => rfl
  | .refuse _ => by funext t ds h; simp only [aCode0]; rfl

/-- A loop, by fuel. -/
theorem wpIn_fuel {F : Fence} {m : Nat} {c : Code} {Q : Exit → Act → World → Prop} (J : Nat → Act → World → Prop) (k : Nat) {a : Act} {w : World} (h0 : J k a w)
    (round : ∀ k a w, J k a w → c.wpIn F m P (Exit.then (fun a' w' => ∃ k', k' < k ∧ J k' a' w') Q) a w) : (Code.loop c).wpIn F m P Q a w := by
  classical
  have least : ∀ {p : Nat → Prop}, (∃ m, p m) → ∃ m, p m ∧ ∀ k, p k → m ≤ k := by
    intro p hx
    obtain ⟨m, hm⟩ := hx
    induction m using Nat.strongRecOn with
    | _ m ih =>
      by_cases hx : ∃ k, k < m ∧ p k
      · obtain ⟨k, hk, hp⟩ := hx; exact ih k hk hp
      · exact ⟨m, hm, fun k hp => by
          rcases Nat.lt_or_ge k m with h | h
          · exact (hx ⟨k, h, hp⟩).elim
          · exact h⟩
  let I : Act → World → Prop := fun a w => ∃ m, J m a w
  let μ : Act → World → Nat := fun a w => if h : ∃ m, J m a w then Classical.choose (least h) else 0
  have hμ : ∀ a w (h : I a w), J (μ a w) a w ∧ ∀ k, J k a w → μ a w ≤ k := by
    intro a w h
    have e : μ a w = Classical.choose (least h) := dif_pos h
    rw [e]; exact Classical.choose_spec (least h)
  refine wpIn_loop I μ ⟨k, h0⟩ ?_
  intro a w hI
  obtain ⟨hJ, _⟩ := hμ a w hI
  refine wpIn_mono (round _ a w hJ) ?_
  intro e a' w' q
  cases e with
  | normal =>
    obtain ⟨m', hlt, hJ'⟩ := q
    exact ⟨⟨m', hJ'⟩, Nat.lt_of_le_of_lt ((hμ a' w' ⟨m', hJ'⟩).2 m' hJ') hlt⟩
  | _ => exact q

/-- What is asked of the evaluation of a code. -/
def CodeOk (w0 : World) (P : Program) (n : Nat) (ro : Option Nat) (c : Code) (ev : T Value → List Nat → AH → COuts) : Prop :=
  ∀ ⦃t : T Value⦄ ⦃ds : List Nat⦄ ⦃h : AH⦄ ⦃l : List Out⦄ ⦃φ : Phi⦄ ⦃a : Act⦄ ⦃w : World⦄ ⦃q : Option Nat⦄ (m : Nat), ev t ds h = some l → R w0 φ h w → FR φ n t a.tmps → DR φ ds a.defers → RoR φ ro q →
    c.wpIn (FW q) m P (Post w0 φ h n l) a w
theorem loop_ok {ro : Option Nat} {c : Code} {ev : T Value → List Nat → AH → COuts} (hc : CodeOk w0 P n ro c ev) (LF : Nat) : CodeOk w0 P n ro (.loop c) (aLoop ev LF) := by
  intro t ds h l φ a w q m hs hr hf hd hq
  refine wpIn_fuel (fun k a w => ∃ t ds h' l' φ', aLoop ev k t ds h' = some l' ∧ (∀ o, o ∈ l' → o ∈ l) ∧ Nx φ φ' h h' ∧ R w0 φ' h' w ∧ FR φ' n t a.tmps ∧ DR φ' ds a.defers) LF
    ⟨t, ds, h, l, φ, hs, fun o ho => ho, .refl φ h, hr, hf, hd⟩ ?_
  rintro k a w ⟨t, ds, h1, l1, φ1, hs1, hsub, nx1, r1, f1, d1⟩
  cases k with
  | zero => simp [aLoop_zero] at hs1
  | succ k =>
    simp only [aLoop_succ] at hs1
    obtain ⟨l2, h2, hall⟩ := bindL_spec hs1
    refine wpIn_mono (hc m h2 r1 f1 d1 (hq.mono nx1.le)) ?_
    rintro e a' w' ⟨o, ho, hex, φ2, nx2, r2, f2, d2⟩
    obtain ⟨k2, hk, hsub2⟩ := hall o ho
    obtain ⟨ex, t', ds', h'⟩ := o
    cases hex with
    | normal => exact ⟨k, Nat.lt_succ_self k, t', ds', h', k2, φ2, hk, fun o ho => hsub o (hsub2 o ho), nx1.trans nx2, r2, f2, d2⟩
    | exit id =>
      cases hk
      exact ⟨_, hsub _ (hsub2 _ (List.mem_singleton.2 rfl)), .exit id, φ2, nx1.trans nx2, r2, f2, d2⟩
    | ret =>
      cases hk
      exact ⟨_, hsub _ (hsub2 _ (List.mem_singleton.2 rfl)), .ret, φ2, nx1.trans nx2, r2, f2, d2⟩
end
end Go.X
namespace Go.X
noncomputable section
open Go Go.RowKit
variable {w0 w w' : World} {φ φ' : Phi} {h h' : AH} {P : Program} {n : Nat} {t : T Value}

theorem region_list {ops : Array Oper} {F : Fence} {m : Nat} {Q : Exit → Act → World → Prop} {id : Nat} {a : Act} (hh : wpOpsIn F m P ops Q (List.range ops.size) a w) : (Code.region id ops false).wpIn F m P Q a w := wpIn_region hh

theorem rangeFunc_ok (hN : NoCount P) {call : Call1} (hc : CallsOk w0 P call) {ro : Option Nat} {f : Operand} {ps : List Tmp} {asg body : Code} {LF : Nat} : CodeOk w0 P n ro (.rangeFunc f ⟨ps⟩ asg body) (aCode0 P call n LF ro (.rangeFunc f ⟨ps⟩ asg body)) := by
  intro t ds h l φ a w q m hs hr hf hd hq
  simp only [aCode0] at hs
  split at hs
  · rename_i g first cap hfv
    have hfv' := aO_ok hf hfv
    split at hs
    · rename_i lb ms h2 hen
      unfold aEnter at hen
      split at hen
      · cases hen
      · split at hen
        · rename_i d h1 hn1
          split at hen
          · rename_i lb' h2' hn2
            cases hen
            obtain rfl : q = none := hq
            refine wpIn_rangeFunc fun fn _ => ?_
            -- the blocks
            obtain ⟨φ1, nx1, hb1, r1⟩ := hr.newObj (x := .deferred (some [])) hn1 (fun φ' w' _ hw => hw)
            have hsz : (w.alloc (.deferred (some []))).heap.size = w.heap.size + 1 := by simp
            obtain ⟨φ2, nx2, hb2, r2⟩ := r1.newObj (x := .loop ⟨.ready, none, fn, a.tmps, ⟨ps⟩, asg, body, w.heap.size⟩) hn2 (fun φ' w' le hw => ⟨fn, a.tmps, w.heap.size, hw, (hf.mono nx1.le).mono le⟩)
            have nx12 := nx1.trans nx2
            generalize hev : a.eval f = u at hfv'
            cases hfv' with
            | @func _ fn' _ _ first' cap' hfn ha hb h3 h4 =>
              cases hfn with
              | same hns =>
                have hL1 : LR φ2 first first' := (LR.of ha h3).mono nx12.le
                have hL2 : LR φ2 cap cap' := (LR.of hb h4).mono nx12.le
                split at hs
                · rename_i an h3' hcf
                  obtain ⟨heq, hcall⟩ := run_callF (args' := first' ++ [.func (.yield (w.heap.size + 1)) #[] #[]] ++ cap') hN hcf ((w.alloc (.deferred (some []))).alloc (.loop ⟨.ready, none, fn, a.tmps, ⟨ps⟩, asg, body, w.heap.size⟩))
                  cases heq
                  have hyv : VR φ2 (yv lb) (.func (.yield (w.heap.size + 1)) #[] #[]) := by
                    have hb2' : φ2 lb = some ⟨w.heap.size + 1, 0, 0, 0, 0⟩ := by rw [← hsz]; exact hb2
                    exact .func' (.yield ⟨w.heap.size + 1, 0, 0, 0, 0⟩ hb2') .nil .nil
                  have hargs := (hL1.append (.cons hyv .nil)).append hL2
                  obtain ⟨l0, h0, hall⟩ := bindL_spec hs
                  refine ⟨w.heap.size + 1, [{ target := .collected w.heap.size, args := #[] }], ((w.alloc (.deferred (some []))).alloc (.loop ⟨.ready, none, fn, a.tmps, ⟨ps⟩, asg, body, w.heap.size⟩)), ⟨.fn (.func g) ⟨cap'⟩, ⟨first' ++ [.func (.yield (w.heap.size + 1)) #[] #[]]⟩⟩, ((w.alloc (.deferred (some []))).alloc (.loop ⟨.ready, none, fn, a.tmps, ⟨ps⟩, asg, body, w.heap.size⟩)), g, ⟨first' ++ [.func (.yield (w.heap.size + 1)) #[] #[]] ++ cap'⟩, ((w.alloc (.deferred (some []))).alloc (.loop ⟨.ready, none, fn, a.tmps, ⟨ps⟩, asg, body, w.heap.size⟩)), run_enterLoop_outer fn a.tmps ⟨ps⟩ asg body, ?_, fun f' _ => FW_fn none f', ?_, fun x => (by cases x), FW_calls (q := none) ?_⟩
                  · simp only [resolve, hev, Deferred.ofValue, Sem.run_pure]
                    congr 2
                    apply Array.ext'
                    simp [Act.eval]
                  · simp only [invoke]
                    have : (⟨first' ++ [.func (.yield (w.heap.size + 1)) #[] #[]]⟩ ++ ⟨cap'⟩ : Array Value) = ⟨first' ++ [.func (.yield (w.heap.size + 1)) #[] #[]] ++ cap'⟩ := by apply Array.ext'; simp
                    rw [this]
                    exact hcall
                  · refine ((hc _ _ _ _ _ _ h0 r2 (.enter hargs)).1 _ _ rfl).mono ?_
                    rintro e w3 ⟨v', rfl, v, h5, hmem, φ3, nx3, r3, _⟩
                    obtain ⟨k, hk, hsub⟩ := hall _ hmem
                    dsimp only at hk
                    split at hk
                    · rename_i st pend ts sz ps' asg' body' ho
                      have hlb : φ3 lb = some ⟨w.heap.size + 1, 0, 0, 0, 0⟩ := nx3.le _ _ (by rw [← hsz]; exact hb2)
                      obtain ⟨fn0, arr0, df0, hw0, hfr0⟩ := r3.dom _ _ _ hlb ho
                      have fin : ∀ {ex : Ex}, st ≠ .busy → exCode pend = some ex → k = [⟨ex, t, [d] ++ ds, { h5 with m := h5.m.set lb (some (.loop .exhausted pend ts sz ps' asg' body')) }⟩] →
                          rangePost (FW none) m P (w.heap.size + 1) (Post w0 φ h n l) { a with defers := [{ target := .collected w.heap.size, args := #[] }] ++ a.defers } (.returned v') w3 := by
                        intro ex hst hex hkk
                        subst hkk
                        have hmem2 := hsub _ (List.mem_singleton.2 rfl)
                        refine ⟨pend, w3.putObj (w.heap.size + 1) (.loop ⟨.exhausted, pend, fn0, arr0, ⟨ps'⟩, asg', body', df0⟩), run_endLoop hw0 hst, ?_⟩
                        have r4 : R w0 φ3 { h5 with m := h5.m.set lb (some (.loop .exhausted pend ts sz ps' asg' body')) } (w3.putObj (w.heap.size + 1) (.loop ⟨.exhausted, pend, fn0, arr0, ⟨ps'⟩, asg', body', df0⟩)) :=
                          r3.put hlb ho rfl (fun w' hw => ⟨fn0, arr0, df0, hw, hfr0⟩)
                        have nxx : Nx φ φ3 h { h5 with m := h5.m.set lb (some (.loop .exhausted pend ts sz ps' asg' body')) } :=
                          (nx12.trans nx3).trans (Nx.put hlb trivial)
                        have pst : ∀ {ee : Exit}, ExR ex ee → Post w0 φ h n l ee { a with defers := [{ target := .collected w.heap.size, args := #[] }] ++ a.defers } (w3.putObj (w.heap.size + 1) (.loop ⟨.exhausted, pend, fn0, arr0, ⟨ps'⟩, asg', body', df0⟩)) := by
                          intro ee hee
                          refine ⟨_, hmem2, hee, φ3, nxx, r4, hf.mono (nx12.trans nx3).le, ?_⟩
                          exact .cons (nx3.le _ _ (nx2.le _ _ hb1)) (hd.mono (nx12.trans nx3).le)
                        cases pend with
                        | none => simp only [exCode] at hex; cases hex; exact pst .normal
                        | some c =>
                          cases c <;> simp only [exCode] at hex <;> cases hex
                          · exact wpIn_exit (pst (.exit _))
                          · exact wpIn_ret (pst .ret)
                      split at hk
                      · cases hk
                      · rename_i x1 x2 ex hst hex
                        cases hk
                        exact fin hst hex rfl
                      · cases hk
                    · cases hk
                · cases hs
          · cases hen
        · cases hen
    · cases hs
  · cases hs
theorem code_ok0 (hN : NoCount P) (hM : P.follows .mixedOrders = true) {call : Call1} (hc : CallsOk w0 P call) (ro : Option Nat) (LF : Nat) : ∀ (c : Code), CodeOk w0 P n ro c (aCode0 P call n LF ro c)
  | .skip => by
    intro t ds h l φ a w q m hs hr hf hd hq
    simp only [aCode0] at hs; cases hs
    exact wpIn_skip ⟨_, List.mem_singleton.2 rfl, .normal, φ, .refl φ h, hr, hf, hd⟩
  | .label _ => by
    intro t ds h l φ a w q m hs hr hf hd hq
    simp only [aCode0] at hs; cases hs
    exact wpIn_label ⟨_, List.mem_singleton.2 rfl, .normal, φ, .refl φ h, hr, hf, hd⟩
  | .ret => by
    intro t ds h l φ a w q m hs hr hf hd hq
    simp only [aCode0] at hs; cases hs
    exact wpIn_ret ⟨_, List.mem_singleton.2 rfl, .ret, φ, .refl φ h, hr, hf, hd⟩
  | .exit id => by
    intro t ds h l φ a w q m hs hr hf hd hq
    simp only [aCode0] at hs; cases hs
    exact wpIn_exit ⟨_, List.mem_singleton.2 rfl, .exit id, φ, .refl φ h, hr, hf, hd⟩
  | .seq x y => by
    intro t ds h l φ a w q m hs hr hf hd hq
    simp only [aCode0] at hs
    obtain ⟨l0, h0, hall⟩ := bindL_spec hs
    refine wpIn_seq (wpIn_mono (code_ok0 hN hM hc ro LF x m h0 hr hf hd hq) ?_)
    rintro e a' w' ⟨o, ho, hex, φ1, nx1, r1, f1, d1⟩
    obtain ⟨k, hk, hsub⟩ := hall _ ho
    obtain ⟨ex, t1, ds1, h1⟩ := o
    cases hex with
    | normal => exact wpIn_mono (code_ok0 hN hM hc ro LF y m hk r1 f1 d1 (hq.mono nx1.le)) (fun e a w p => (p.sub hsub).from nx1)
    | exit id => cases hk; exact ⟨_, hsub _ (List.mem_singleton.2 rfl), .exit id, φ1, nx1, r1, f1, d1⟩
    | ret => cases hk; exact ⟨_, hsub _ (List.mem_singleton.2 rfl), .ret, φ1, nx1, r1, f1, d1⟩
  | .cond c x y => by
    intro t ds h l φ a w q m hs hr hf hd hq
    simp only [aCode0] at hs
    split at hs
    · rename_i b hb
      have hb' := (aO_ok hf hb).bool_inv
      refine wpIn_cond_split hb' (fun e => ?_) (fun e => ?_)
      · rw [if_pos e] at hs; exact code_ok0 hN hM hc ro LF x m hs hr hf hd hq
      · rw [if_neg (by simp [e])] at hs; exact code_ok0 hN hM hc ro LF y m hs hr hf hd hq
    · cases hs
  | .block id c => by
    intro t ds h l φ a w q m hs hr hf hd hq
    simp only [aCode0] at hs
    obtain ⟨l0, h0, hall⟩ := bindL_spec hs
    refine wpIn_block (wpIn_mono (code_ok0 hN hM hc ro LF c m h0 hr hf hd hq) ?_)
    rintro e a' w' ⟨o, ho, hex, φ1, nx1, r1, f1, d1⟩
    obtain ⟨k, hk, hsub⟩ := hall _ ho
    obtain ⟨ex, t1, ds1, h1⟩ := o
    cases hex with
    | normal => cases hk; exact ⟨_, hsub _ (List.mem_singleton.2 rfl), .normal, φ1, nx1, r1, f1, d1⟩
    | exit j =>
      dsimp only at hk
      simp only [Exit.inBlock]
      by_cases hj : j = id
      · rw [if_pos hj] at hk ⊢; cases hk; exact ⟨_, hsub _ (List.mem_singleton.2 rfl), .normal, φ1, nx1, r1, f1, d1⟩
      · rw [if_neg hj] at hk ⊢; cases hk; exact ⟨_, hsub _ (List.mem_singleton.2 rfl), .exit j, φ1, nx1, r1, f1, d1⟩
    | ret => cases hk; exact ⟨_, hsub _ (List.mem_singleton.2 rfl), .ret, φ1, nx1, r1, f1, d1⟩
  | .loop c => loop_ok (code_ok0 hN hM hc ro LF c) LF
  | .region id ops draw => by
    intro t ds h l φ a w q m hs hr hf hd hq
    simp only [aCode0] at hs
    obtain ⟨l0, h0, hall⟩ := bindL_spec hs
    have fin : ∀ t' h' φ' (a' : Act) w', (t', h') ∈ l0 → Nx φ φ' h h' → R w0 φ' h' w' → FR φ' n t' a'.tmps → a'.defers = a.defers → Post w0 φ h n l .normal a' w' := by
      intro t' h' φ' a' w' hm nx' r' f' d'
      obtain ⟨k, hk, hsub⟩ := hall _ hm
      cases hk
      exact ⟨_, hsub _ (List.mem_singleton.2 rfl), .normal, φ', nx', r', f', by rw [d']; exact hd.mono nx'.le⟩
    cases draw with
    | true => exact draw_ok hN hM hc h0 hr hf fin
    | false => exact region_list (ops_ok hN hc h0 hr hf fin)
  | .rangeFunc f ps asg body => by obtain ⟨ps⟩ := ps; exact rangeFunc_ok hN hc
  | .scope c => by intro t ds h l φ a w q m hs hr hf hd hq; simp [aCode0] at hs
  | .goto c => by intro t ds h l φ a w q m hs hr hf hd hq; simp [aCode0] at hs
  | .refuse c => by intro t ds h l φ a w q m hs hr hf hd hq; simp [aCode0] at hs
theorem code_ok (hN : NoCount P) (hM : P.follows .mixedOrders = true) {call : Call1} (hc : CallsOk w0 P call) (ro : Option Nat) (LF : Nat) (c : Code) : CodeOk w0 P n ro c (aCode P call n LF ro c) := by
  rw [aCode_eq]; exact code_ok0 hN hM hc ro LF c
end
end Go.X
namespace Go.X
noncomputable section
open Go Go.RowKit
variable {w0 w w' : World} {φ φ' : Phi} {h h' : AH} {P : Program} {n : Nat} {t : T Value}

/-- The marks are come to. -/
def aLeave : List Nat → AH → Option AH
  | [], h => some h
  | d :: ds, h => match h.m.get d with
    | some .dfr => aLeave ds { h with m := h.m.set d none }
    | _ => none
def aRes1 (P : Program) (n : Nat) (t : T Value) (h : AH) : ResultVar → Option Value
  | .tmp k => if k < n then some ((t.get k).getD undef) else none
  | .cell k T => if k < n then (match t.get k with
    | some (.pointer (some a)) => aLoad P T a h
    | _ => none) else none
def aResL (P : Program) (n : Nat) (t : T Value) (h : AH) : List ResultVar → Option (List Value)
  | [] => some []
  | x :: l => match aRes1 P n t h x, aResL P n t h l with
    | some v, some m => some (v :: m)
    | _, _ => none
def aRes (P : Program) (n : Nat) (t : T Value) (h : AH) (l : List ResultVar) : Option Value := match aResL P n t h l with
  | some [v] => some v
  | some l => some (.tuple ⟨l⟩)
  | none => none
def resF (a : Array Value) : ResultVar → Sem Value
  | .tmp t => pure (a.getD t undef)
  | .cell b T => do loadVar T (← asAddr (a.getD b undef))
theorem res1_ok (r : R w0 φ h w) {a : Array Value} (f : FR φ n t a) {x : ResultVar} {v : Value} (hs : aRes1 P n t h x = some v) :
    ∃ v', (resF a x).run P w = .ok v' w ∧ VR φ v v' := by
  cases x with
  | tmp k =>
    simp only [aRes1] at hs
    split at hs
    · cases hs; exact ⟨_, rfl, f.at k ‹_›⟩
    · cases hs
  | cell k T =>
    simp only [aRes1] at hs
    split at hs
    · rename_i hk
      split at hs
      · rename_i ad hg
        have hv := f.at k hk
        rw [hg] at hv
        simp only [Option.getD_some] at hv
        obtain ⟨i, hi, _, e⟩ := hv.ptr_inv
        obtain ⟨v', h1, h2⟩ := run_loadVar_at (P := P) r hi hs
        refine ⟨v', ?_, h2⟩
        simp only [resF, e, asAddr, Sem.run_bind, Sem.run_pure, Result.andThen_ok]
        exact h1
      · cases hs
    · cases hs
theorem res_ok (r : R w0 φ h w) {fn : Func} {a : Array Value} (f : FR φ n t a) {v : Value} (hs : aRes P n t h fn.results.toList = some v) : ∃ v', (results fn a).run P w = .ok v' w ∧ VR φ v v' := by
  have key : ∀ (l : List ResultVar) {m : List Value}, aResL P n t h l = some m → ∃ m', (l.mapM (m := Sem) (resF a)).run P w = .ok m' w ∧ LR φ m m' := by
    intro l
    induction l with
    | nil => intro m hm; simp only [aResL] at hm; cases hm; exact ⟨[], by simp, .nil⟩
    | cons x l ih =>
      intro m hm
      simp only [aResL] at hm
      split at hm
      · rename_i v1 m1 h1 h2
        cases hm
        obtain ⟨v', h3, h4⟩ := res1_ok r f h1
        obtain ⟨m', h5, h6⟩ := ih h2
        refine ⟨v' :: m', ?_, .cons h4 h6⟩
        rw [List.mapM_cons]
        simp only [Sem.run_bind, h3, Result.andThen_ok, h5, Sem.run_pure]
      · cases hm
  unfold aRes at hs
  have hm : ∃ m, aResL P n t h fn.results.toList = some m := by
    cases hq : aResL P n t h fn.results.toList with
    | none => rw [hq] at hs; simp at hs
    | some m => exact ⟨m, rfl⟩
  obtain ⟨m, hm⟩ := hm
  obtain ⟨m', h1, h2⟩ := key _ hm
  have hrun : (fn.results.mapM (m := Sem) (resF a)).run P w = .ok ⟨m'⟩ w := by
    have e : fn.results = ⟨fn.results.toList⟩ := rfl
    rw [e]
    have e2 : (⟨fn.results.toList⟩ : Array ResultVar).mapM (m := Sem) (resF a) =
      List.toArray <$> (fn.results.toList.mapM (m := Sem) (resF a)) := List.mapM_toArray
    rw [e2]
    have e3 : ∀ (z : Sem (List Value)), (List.toArray <$> z : Sem (Array Value)) = z >>= fun l => pure l.toArray := fun z => rfl
    rw [e3, Sem.run_bind, h1, Result.andThen_ok]
    rfl
  rw [hm] at hs
  have hres : (results fn a).run P w = .ok (if hh : (⟨m'⟩ : Array Value).size = 1 then (⟨m'⟩ : Array Value)[0] else .tuple ⟨m'⟩) w := by
    have hdef : results fn a = ((fn.results.mapM (m := Sem) (resF a)) >>= fun vs => pure (if hh : vs.size = 1 then vs[0] else .tuple vs)) := by
      unfold results
      congr 1
    rw [hdef]
    rw [Sem.run_bind, hrun, Result.andThen_ok]
    rfl
  split at hs
  · rename_i v1 e
    cases e
    cases hs
    obtain ⟨u, rfl, hu⟩ := h2.one_inv
    exact ⟨u, by rw [hres]; rfl, hu⟩
  · rename_i l hne e
    cases e
    cases hs
    have hl := h2.length
    have : ¬ (⟨m'⟩ : Array Value).size = 1 := by
      intro h1
      have h1' : m'.length = 1 := h1
      rw [← hl] at h1'
      match m, h1' with
      | [x], _ => exact hne x rfl
    exact ⟨_, by rw [hres, dif_neg this], .tuple' h2⟩
  · rename_i e; cases e

def putLoop (h : AH) (b : Nat) (o : AObj) : AH := { h with m := h.m.set b (some o) }
/-- A call, if one knows how to make calls. -/
def aFun (P : Program) (LF : Nat) (call : Call1) : Call1 := fun an h => match an with
    | .enter f args => (match P.funcs[f]? with
      | some fn => (match fn.body with
        | some c => if args.length ≤ fn.ntmps then bindL (aCode P (call) fn.ntmps LF none c (T.fill args 0 .e) [] h) fun o => (match o.ex with
            | .exit _ => none
            | _ => (match aLeave o.ds o.h with
              | some h' => (match aRes P fn.ntmps o.t h' fn.results.toList with
                | some v => some [(v, h')]
                | none => none)
              | none => none)) else none
        | none => none)
      | none => none)
    | .round b ts sz asg body => bindL (aCode P (call) sz LF (some b) asg ts [] h) fun o => (match o.ex with
        | .normal => (match o.h.m.get b with
          | some (.loop .ready pend ts' sz' ps asg' body') => bindL (aCode P (call) sz LF (some b) body o.t o.ds (putLoop o.h b (.loop .busy pend ts' sz' ps asg' body'))) fun o2 => (match o2.h.m.get b with
            | some (.loop _ _ ts2 sz2 ps2 asg2 body2) => (match o2.ex with
              | .normal => some [(.bool true, putLoop o2.h b (.loop .ready none ts2 sz2 ps2 asg2 body2))]
              | .ret => some [(.bool false, putLoop o2.h b (.loop .done (some .ret) ts2 sz2 ps2 asg2 body2))]
              | .exit id => some [(.bool false, putLoop o2.h b (.loop .done (some (.exit id)) ts2 sz2 ps2 asg2 body2))])
            | _ => none)
          | _ => none)
        | _ => none)
    | _ => none
def aRun (P : Program) (LF : Nat) : Nat → Call1
  | 0 => fun _ _ => none
  | k + 1 => aFun P LF (aRun P LF k)
/-- The same with an override. -/
def aRunW (ov : Call1 → Call1) (P : Program) (LF : Nat) : Nat → Call1
  | 0 => fun _ _ => none
  | k + 1 => ov (aFun P LF (aRunW ov P LF k))
theorem leaves_ok {fn : Func} {tmps : Array Value} {l : List (Value × AH)} {φ0 : Phi} {h0 : AH} {t : T Value} : ∀ (ds : List Nat) {ds' : List Deferred} {h h' : AH} {φ : Phi} {w : World} {v : Value}, aLeave ds h = some h' → DR φ ds ds' → R w0 φ h w → FR φ n t tmps → Nx φ0 φ h0 h →
    aRes P n t h' fn.results.toList = some v → (v, h') ∈ l →
    LeavesInM Fence.wide 0 P fn tmps (fun e w' => ∃ v', e = .returned v' ∧ ∃ v h', (v, h') ∈ l ∧ ∃ φ', Nx φ0 φ' h0 h' ∧ R w0 φ' h' w' ∧ VR φ' v v') ds' .returning w
  | [], ds', h, h', φ, w, v, hs, hd, hr, hf, nx, hv, hm => by
    cases hd
    simp only [aLeave] at hs; cases hs
    obtain ⟨v', h1, h2⟩ := res_ok hr hf hv
    exact ⟨v', h1, v', rfl, v, _, hm, φ, nx, hr, h2⟩
  | d :: ds, ds', h, h', φ, w, v, hs, hd, hr, hf, nx, hv, hm => by
    cases hd with
    | @cons _ i _ l' hb ht =>
      simp only [aLeave] at hs
      split at hs
      · rename_i ho
        have hw : w.heap[i.c]? = some (.deferred (some [])) := hr.dom _ _ _ hb ho
        have hlt : T.Ok (d) := trivial
        refine ⟨by simp, .inl ⟨i.c, w.putObj i.c (.deferred none), rfl, run_takeDeferred hw, ?_⟩⟩
        have hlow : w0.heap.size ≤ i.c := hr.low _ _ _ hb ho rfl
        have hother : ∀ k, k ≠ i.c → (w.putObj i.c (.deferred none)).heap[k]? = w.heap[k]? := fun k hk => putW_other hk
        have r2 : R w0 φ { h with m := h.m.set d none } (w.putObj i.c (.deferred none)) := by
          have rd := hr.drop d hlt
          have free : ∀ b j o', φ b = some j → (h.m.set d none).get b = some o' → j.c ≠ i.c := by
            intro b j o' hj hgo hc
            rw [T.get_set] at hgo
            by_cases e : b = d
            · rw [if_pos e] at hgo; cases hgo
            · rw [if_neg e] at hgo; exact e (hr.inj _ _ _ _ _ _ hb hj ho hgo rfl hc.symm).symm
          have hsz : (w.putObj i.c (.deferred none)).heap.size = w.heap.size := by simp
          exact ⟨fun b j o hj ho => (rd.dom b j o hj ho).world (hother _ (free b j o hj ho)), rd.low, rd.inj, fun b j hj => by rw [hsz]; exact rd.lt b j hj, rd.nx,
            rd.below.trans ⟨rfl, rfl, rfl, by rw [hsz]; exact Nat.le_refl _, fun k hk => hother k (by omega)⟩⟩
        exact leaves_ok ds hs ht r2 hf (nx.trans (Nx.drop hb hlt)) hv hm
      · cases hs
theorem fun_ok (hN : NoCount P) (hM : P.follows .mixedOrders = true) (LF : Nat) {call : Call1} (ih : CallsOk w0 P call) : CallsOk w0 P (aFun P LF call) := by
  intro an h l φ w nx hs hr hnr
  cases hnr with
  | val hv => simp [aFun] at hs
  | skip => simp [aFun] at hs
  | @enter f args args' hl =>
    refine ⟨?_, fun _ _ _ _ _ e => by cases e⟩
    intro f' args2 e
    cases e
    simp only [aFun] at hs
    split at hs
    · rename_i fn hf
      split at hs
      · rename_i c hb
        split at hs
        · rename_i hsz
          obtain ⟨l0, h0, hall⟩ := bindL_spec hs
          refine (callsIn_wide (n := 0)).1 (callsIn_of_wp_marks hf hb trivial ?_ rfl)
          have hfr : FR φ fn.ntmps (T.fill args 0 .e) (⟨args'⟩ ++ Array.replicate (fn.ntmps - (⟨args'⟩ : Array Value).size) undef) := by
            have hle : args'.length ≤ fn.ntmps := by rw [← hl.length]; exact hsz
            refine ⟨by simp; omega, trivial, fun k u hk => ?_⟩
            rw [T.get_fill]
            by_cases hlt : k < args.length
            · rw [if_pos (by omega)]
              have hlt' : k < args'.length := by rw [← hl.length]; exact hlt
              rw [Array.getElem?_append_left (by simpa using hlt')] at hk
              obtain ⟨v', h1, h2⟩ := hl.get (List.getElem?_eq_getElem hlt)
              have : args'[k]? = some u := by simpa using hk
              rw [h1] at this; cases this
              simp only [Nat.sub_zero, List.getElem?_eq_getElem hlt, Option.getD_some]
              exact h2
            · rw [if_neg (by omega)]
              have hge : ¬ k < args'.length := by rw [← hl.length]; exact hlt
              rw [Array.getElem?_append_right (by simpa using hge), Array.getElem?_replicate] at hk
              split at hk
              · cases hk; exact .undef
              · cases hk
          refine wpIn_mono (code_ok hN hM ih none LF c (q := none) 0 h0 hr hfr .nil rfl) ?_
          rintro e a' w' ⟨o, ho, hex, φ1, nx1, r1, f1, d1⟩
          obtain ⟨k2, hk, hsub⟩ := hall _ ho
          obtain ⟨ex, t1, ds1, h1⟩ := o
          have fin : (match aLeave ds1 h1 with
            | some h' => (match aRes P fn.ntmps t1 h' fn.results.toList with
              | some v => some [(v, h')]
              | none => none)
            | none => none) = some k2 → LeavesInM Fence.wide 0 P fn a'.tmps (fun e w' => ∃ v', e = .returned v' ∧ ∃ v h', (v, h') ∈ l ∧ ∃ φ', Nx φ φ' h h' ∧ R w0 φ' h' w' ∧ VR φ' v v') a'.defers .returning w' := by
            intro hk
            split at hk
            · rename_i h2 hlv
              split at hk
              · rename_i v hv
                cases hk
                exact leaves_ok ds1 hlv d1 r1 f1 nx1 hv (hsub _ (List.mem_singleton.2 rfl))
              · cases hk
            · cases hk
          cases hex with
          | normal => exact fin hk
          | exit id => cases hk
          | ret => exact fin hk
        · cases hs
      · cases hs
    · cases hs
  | @round b i ts sz asg body fn arr hb hfr =>
    refine ⟨fun _ _ e => (by cases e), ?_⟩
    intro b' f' tmps' asg' body' e m
    cases e
    simp only [aFun] at hs
    obtain ⟨l0, h0, hall⟩ := bindL_spec hs
    refine roundIn_of_wpIn trivial ?_
    refine wpIn_mono (code_ok hN hM ih (some b) LF asg (q := some i.c) m h0 hr hfr .nil ⟨i, hb, rfl⟩) ?_
    rintro e a1 w1 ⟨o, ho, hex, φ1, nx1, r1, f1, d1⟩
    obtain ⟨k2, hk, hsub⟩ := hall _ ho
    obtain ⟨ex, t1, ds1, h1⟩ := o
    cases hex with
    | exit id => cases hk
    | ret => cases hk
    | normal =>
      dsimp only at hk
      split at hk
      · rename_i pend ts' sz' ps asg2 body2 hget
        have hb1 := nx1.le _ _ hb
        obtain ⟨fn0, arr0, df0, hw0, hfr0⟩ := r1.dom _ _ _ hb1 hget
        refine ⟨_, run_beginRound hw0 rfl, ?_⟩
        have r2 : R w0 φ1 (putLoop h1 b (.loop .busy pend ts' sz' ps asg2 body2)) (w1.putObj i.c (.loop ⟨.busy, pend, fn0, arr0, ⟨ps⟩, asg2, body2, df0⟩)) := r1.put hb1 hget rfl (fun w' hw => ⟨fn0, arr0, df0, hw, hfr0⟩)
        have nx2 : Nx φ1 φ1 h1 (putLoop h1 b (.loop .busy pend ts' sz' ps asg2 body2)) := Nx.put hb1 trivial
        obtain ⟨l3, h3, hall3⟩ := bindL_spec hk
        refine wpIn_mono (code_ok hN hM ih (some b) LF body (q := some i.c) m h3 r2 f1 d1 ⟨i, hb1, rfl⟩) ?_
        rintro e a2 w2 ⟨o2, ho2, hex2, φ3, nx3, r3, f3, d3⟩
        obtain ⟨k4, hk4, hsub4⟩ := hall3 _ ho2
        obtain ⟨ex2, t2, ds2, h2⟩ := o2
        dsimp only at hk4
        split at hk4
        · rename_i st2 pd2 ts2 sz2 ps2 asg3 body3 hget2
          have hb3 := nx3.le _ _ hb1
          obtain ⟨fn1, arr1, df1, hw1, hfr1⟩ := r3.dom _ _ _ hb3 hget2
          have nxx : ∀ (o : AObj), Nx φ φ3 h (putLoop h2 b o) := fun o => ((nx1.trans nx2).trans nx3).trans (Nx.put hb3 trivial)
          have rr : ∀ (st : LoopState) (pd : Option Code), R w0 φ3 (putLoop h2 b (.loop st pd ts2 sz2 ps2 asg3 body3)) (w2.putObj i.c (.loop ⟨st, pd, fn1, arr1, ⟨ps2⟩, asg3, body3, df1⟩)) := fun st pd => r3.put hb3 hget2 rfl (fun w' hw => ⟨fn1, arr1, df1, hw, hfr1⟩)
          cases hex2 with
          | normal =>
            cases hk4
            exact ⟨_, _, run_endRound none hw1, _, rfl, _, _, hsub _ (hsub4 _ (List.mem_singleton.2 rfl)), φ3, nxx _, rr .ready none, .bool _⟩
          | exit id =>
            cases hk4
            exact ⟨_, _, run_endRound (some (.exit id)) hw1, _, rfl, _, _, hsub _ (hsub4 _ (List.mem_singleton.2 rfl)), φ3, nxx _, rr .done (some (.exit id)), .bool _⟩
          | ret =>
            cases hk4
            exact ⟨_, _, run_endRound (some .ret) hw1, _, rfl, _, _, hsub _ (hsub4 _ (List.mem_singleton.2 rfl)), φ3, nxx _, rr .done (some .ret), .bool _⟩
        · cases hk4
      · cases hk
theorem run_callsOk (hN : NoCount P) (hM : P.follows .mixedOrders = true) (LF : Nat) : ∀ k, CallsOk w0 P (aRun P LF k)
  | 0 => by intro an h l φ w nx hs; simp [aRun] at hs
  | k + 1 => fun_ok hN hM LF (run_callsOk hN hM LF k)
theorem runW_callsOk (hN : NoCount P) (hM : P.follows .mixedOrders = true) (LF : Nat) {ov : Call1 → Call1} (hov : ∀ call, CallsOk w0 P call → CallsOk w0 P (ov call)) : ∀ k, CallsOk w0 P (aRunW ov P LF k)
  | 0 => by intro an h l φ w nx hs; simp [aRunW] at hs
  | k + 1 => hov _ (fun_ok hN hM LF (runW_callsOk hN hM LF hov k))
end
end Go.X
namespace Go.X
noncomputable section
open Go Go.RowKit
variable {w0 : World} {P : Program}

/-- Nothing is known at first. -/
def none0 : Phi := fun _ => none
def ah0 : AH := ⟨.e, 0⟩
theorem R.first (W : World) : R W none0 ah0 W :=
  ⟨fun _ _ _ h => (by cases h), fun _ _ _ h => (by cases h), fun _ _ _ _ _ _ h => (by cases h), fun _ _ h => (by cases h), trivial, Below.refl _ _⟩
def yes : Value → Bool
  | .bool true => true
  | _ => false
def allYes : Option (List (Value × AH)) → Bool
  | some l => l.all fun p => yes p.1
  | none => false
def noCountB (P : Program) : Bool := P.funcs.toList.all fun fn => !(fn.name == "runtime.NumGoroutine")
theorem noCount_of (hb : noCountB P = true) : NoCount P := by
  intro f fn hf _
  have hm : fn ∈ P.funcs.toList := by
    rw [Array.mem_toList_iff]
    exact Array.mem_of_getElem? hf
  have := List.all_eq_true.1 hb fn hm
  simpa using this
theorem yes_calls (hN : NoCount P) (hM : P.follows .mixedOrders = true) (LF k : Nat) {f : FuncId} {args : List Value} {args' : Array Value} {W : World}
    (ha : LR none0 args args'.toList) (hs : allYes (aRun P LF k (.enter f args) ah0) = true) :
    Calls P f args' W fun e w' => e = .returned (.bool true) ∧ Below W.heap.size W w' := by
  cases hl : aRun P LF k (.enter f args) ah0 with
  | none => rw [hl] at hs; cases hs
  | some l =>
    rw [hl] at hs
    have hc := (run_callsOk (w0 := W) hN hM LF k _ _ _ none0 W (.enter f ⟨args'.toList⟩) hl (R.first W) (.enter ha)).1 _ _ rfl
    refine Calls.mono hc fun e w' he => ?_
    obtain ⟨v', rfl, v, h', hm, φ', _, hr, hv⟩ := he
    have := List.all_eq_true.1 hs _ hm
    refine ⟨?_, hr.below⟩
    dsimp only at this
    unfold yes at this
    split at this
    · cases hv; rfl
    · cases this
end
end Go.X
namespace Go.X
noncomputable section
open Go Go.RowKit
variable {w0 w w' : World} {φ φ' : Phi} {h h' : AH} {P : Program} {n : Nat} {t : T Value}

/-- What is still needed of the memory. -/
def gc (keep : List Nat) (h : AH) : AH := ⟨keep.foldl (fun t b => t.set b (h.m.get b)) .e, h.next⟩
theorem gc_get (keep : List Nat) (h : AH) (b : Nat) (o : AObj) (hb : (gc keep h).m.get b = some o) : h.m.get b = some o := by
  have key : ∀ (l : List Nat) (t : T AObj), (∀ b o, t.get b = some o → h.m.get b = some o) → ∀ b o, (l.foldl (fun t b => t.set b (h.m.get b)) t).get b = some o → h.m.get b = some o := by
    intro l
    induction l with
    | nil => intro t ht; exact ht
    | cons k l ih =>
      intro t ht
      simp only [List.foldl_cons]
      refine ih _ ?_
      intro b o hb
      rw [T.get_set] at hb
      split at hb
      · rename_i e; subst e; exact hb
      · exact ht b o hb
  exact key keep .e (fun b o hb => by rw [T.get_e] at hb; cases hb) b o hb
theorem R.gc (r : R w0 φ h w) (keep : List Nat) : R w0 φ (gc keep h) w := by
  have g := gc_get keep h
  exact ⟨fun b i o hi ho => r.dom b i o hi (g b o ho), fun b i o hi ho => r.low b i o hi (g b o ho), fun b b' i i' o o' hi hi' ho ho' => r.inj b b' i i' o o' hi hi' (g b o ho) (g b' o' ho'), r.lt, r.nx, r.below⟩

/-- Some pieces of a body, one behind the other. -/
def aSpine (P : Program) (call : Call1) (n LF : Nat) : Nat → Code → T Value → List Nat → AH → Option (T Value × List Nat × AH)
  | 0, _, t, ds, h => some (t, ds, h)
  | k + 1, .seq x y, t, ds, h => match aCode P call n LF none x t ds h with
    | some [⟨.normal, t', ds', h'⟩] => aSpine P call n LF k y t' ds' h'
    | _ => none
  | _ + 1, _, _, _, _ => none
def back : Nat → Code → Code
  | 0, c => c
  | k + 1, .seq _ y => back k y
  | _ + 1, c => c
/-- From such a state on the code does what is asked. -/
def Good (w0 : World) (P : Program) (n : Nat) (Q : Exit → Act → World → Prop) (c : Code) (t : T Value) (ds : List Nat) (h : AH) : Prop :=
  ∀ (φ : Phi) (a : Act) (w : World), R w0 φ h w → FR φ n t a.tmps → DR φ ds a.defers → c.wpIn Fence.wide 0 P Q a w
theorem Good.gc {Q : Exit → Act → World → Prop} {c : Code} {ds : List Nat} (keep : List Nat) (g : Good w0 P n Q c t ds (gc keep h)) : Good w0 P n Q c t ds h :=
  fun φ a w r f d => g φ a w (r.gc keep) f d
theorem Good.spine (hN : NoCount P) (hM : P.follows .mixedOrders = true) {call : Call1} (hc : CallsOk w0 P call) (LF : Nat) {Q : Exit → Act → World → Prop} : ∀ (k : Nat) {c : Code} {t t' : T Value} {ds ds' : List Nat} {h h' : AH},
    aSpine P call n LF k c t ds h = some (t', ds', h') → Good w0 P n Q (back k c) t' ds' h' → Good w0 P n Q c t ds h
  | 0, c, t, t', ds, ds', h, h', hs, g => by simp only [aSpine] at hs; cases hs; exact g
  | k + 1, c, t, t', ds, ds', h, h', hs, g => by
    cases c with
    | seq x y =>
      simp only [aSpine] at hs
      split at hs
      · rename_i t1 ds1 h1 hx
        have g2 := Good.spine hN hM hc LF k hs g
        intro φ a w r f d
        refine wpIn_seq (wpIn_mono (code_ok hN hM hc none LF x (q := none) 0 hx r f d rfl) ?_)
        rintro e a1 w1 ⟨o, ho, hex, φ1, nx1, r1, f1, d1⟩
        cases List.mem_singleton.1 ho
        cases hex
        exact g2 φ1 a1 w1 r1 f1 d1
      · cases hs
    | _ => simp [aSpine] at hs
theorem Good.last (hN : NoCount P) (hM : P.follows .mixedOrders = true) {call : Call1} (hc : CallsOk w0 P call) (LF : Nat) {c : Code} {ds : List Nat} {l : List Out} (hs : aCode P call n LF none c t ds h = some l) {Q : Exit → Act → World → Prop}
    (hq : ∀ e a w, (∃ o, o ∈ l ∧ ExR o.ex e ∧ ∃ φ', R w0 φ' o.h w ∧ FR φ' n o.t a.tmps ∧ DR φ' o.ds a.defers) → Q e a w) : Good w0 P n Q c t ds h := by
  intro φ a w r f d
  refine wpIn_mono (code_ok hN hM hc none LF c (q := none) 0 hs r f d rfl) ?_
  rintro e a1 w1 ⟨o, ho, hex, φ1, nx1, r1, f1, d1⟩
  exact hq e a1 w1 ⟨o, ho, hex, φ1, r1, f1, d1⟩
end
end Go.X
namespace Go.X
noncomputable section
open Go Go.RowKit
variable {w0 w w' : World} {φ φ' : Phi} {h h' : AH} {P : Program} {n : Nat} {t : T Value}

def YesPost (W : World) : Ending → World → Prop := fun e w' => e = .returned (.bool true) ∧ Below W.heap.size W w'
def lastYes (P : Program) (fn : Func) (o : Out) : Bool := match o.ex, o.ds with
  | .exit _, _ => false
  | _, [] => (match aRes P fn.ntmps o.t o.h fn.results.toList with
    | some v => yes v
    | none => false)
  | _, _ => false
def lastYesL (P : Program) (fn : Func) : COuts → Bool
  | some l => l.all (lastYes P fn)
  | none => false
theorem good_yes (hN : NoCount P) (hM : P.follows .mixedOrders = true) {call : Call1} {W : World} (hc : CallsOk W P call) (LF : Nat) {fn : Func} {c : Code} {ds : List Nat}
    (hs : lastYesL P fn (aCode P call fn.ntmps LF none c t ds h) = true) : Good W P fn.ntmps (bodyPostM Fence.wide 0 P fn (YesPost W)) c t ds h := by
  cases hl : aCode P call fn.ntmps LF none c t ds h with
  | none => rw [hl] at hs; cases hs
  | some l =>
    rw [hl] at hs
    refine Good.last hN hM hc LF hl ?_
    rintro e a w ⟨o, ho, hex, φ1, r1, f1, d1⟩
    have hyy := List.all_eq_true.1 hs _ ho
    obtain ⟨ex, t1, ds1, h1⟩ := o
    have fin : (match aRes P fn.ntmps t1 h1 fn.results.toList with
        | some v => yes v
        | none => false) = true → ds1 = [] → LeavesInM Fence.wide 0 P fn a.tmps (YesPost W) a.defers .returning w := by
      intro hy hd
      subst hd
      split at hy
      · rename_i v hv
        obtain ⟨v', h2, h3⟩ := res_ok r1 f1 hv
        have ha : a.defers = [] := by
          revert d1
          generalize a.defers = z
          intro d1
          cases d1; rfl
        rw [ha]
        refine ⟨v', h2, ?_, r1.below⟩
        unfold yes at hy
        split at hy
        · cases h3; rfl
        · cases hy
      · cases hy
    cases ds1 with
    | nil =>
      cases hex with
      | normal => exact fin hyy rfl
      | exit id => cases hyy
      | ret => exact fin hyy rfl
    | cons d ds1 => cases hex <;> cases hyy
theorem good_calls {W : World} {f : FuncId} {fn : Func} {c : Code} {post : Ending → World → Prop} (hf : P.funcs[f]? = some fn) (hb : fn.body = some c) (hn : T.Ok fn.ntmps)
    (g : Good W P fn.ntmps (bodyPostM Fence.wide 0 P fn post) c .e [] ah0) : Calls P f #[] W post := by
  refine (callsIn_wide (n := 0)).1 (callsIn_of_wp_marks hf hb trivial ?_ rfl)
  refine g none0 _ W (R.first W) ?_ .nil
  refine ⟨by simp, hn, fun k u hk => ?_⟩
  have : u = undef := by
    simp only [List.size_toArray, List.length_nil, Nat.sub_zero, Array.empty_append] at hk
    rw [Array.getElem?_replicate] at hk
    split at hk
    · cases hk; rfl
    · cases hk
  subst this
  rw [T.get_e]; exact .undef
end
end Go.X
namespace Go.X
noncomputable section
open Go Go.RowKit
variable {w0 w w' : World} {φ φ' : Phi} {h h' : AH} {P : Program} {n : Nat} {t : T Value}

theorem R.grown (r : R w0 φ h w) (b : Below w.heap.size w w') : R w0 φ h w' := by
  have e : ∀ {k i}, φ k = some i → w'.heap[i.c]? = w.heap[i.c]? := fun hk => b.block _ (r.lt _ _ hk).1
  have hs : w.heap.size ≤ w'.heap.size := b.size
  have hb := r.below
  refine ⟨fun k i o hi ho => (r.dom k i o hi ho).world (e hi), r.low, r.inj, fun k i hi => ⟨Nat.lt_of_lt_of_le (r.lt k i hi).1 hs, (r.lt k i hi).2⟩, r.nx, ?_⟩
  exact hb.trans (b.mono hb.size)
/-- Calls of one function that is known to return true. -/
def known (f : FuncId) (call : Call1) : Call1 := fun an h => match an with
  | .enter g [] => if g = f then some [(.bool true, h)] else call an h
  | _ => call an h
theorem known_ok {f : FuncId} {call : Call1} (hf : ∀ W, Calls P f #[] W (YesPost W)) (hc : CallsOk w0 P call) : CallsOk w0 P (known f call) := by
  intro an h l φ w nx hs hr hnr
  unfold known at hs
  split at hs
  · rename_i g
    split at hs
    · rename_i hg
      subst hg
      cases hs
      cases hnr with
      | enter hl =>
        cases hl
        refine ⟨?_, fun _ _ _ _ _ e => by cases e⟩
        intro f' args e
        cases e
        refine Calls.mono (hf w) fun e w' he => ?_
        obtain ⟨rfl, hb⟩ := he
        exact ⟨_, rfl, .bool true, h, List.mem_singleton.2 rfl, φ, .refl φ h, hr.grown hb, .bool true⟩
    · exact hc _ _ _ _ _ _ hs hr hnr
  · exact hc _ _ _ _ _ _ hs hr hnr
end
end Go.X
namespace Go.X
noncomputable section
open Go Go.RowKit
variable {w0 w w' : World} {φ φ' : Phi} {h h' : AH} {P : Program} {n : Nat} {t : T Value}

/-- A block that a call has made is known under a new number. -/
theorem R.adopt (r : R w0 φ h w) (bl : Below w.heap.size w w') {i : Im} {o : AObj} (hc : w.heap.size ≤ i.c) (hl : i.c < w'.heap.size) (hn : T.Ok h.next) (hx : ∀ φ', OR φ' i w' o) :
    ∃ φ', Nx φ φ' h ⟨h.m.set h.next (some o), h.next + 1⟩ ∧ φ' h.next = some i ∧ R w0 φ' ⟨h.m.set h.next (some o), h.next + 1⟩ w' := by
  have rg := r.grown bl
  have le : Le φ (fun b => if b = h.next then some i else φ b) := by
    intro b j hj
    have := (r.lt b j hj).2
    show (if b = h.next then some i else φ b) = some j
    rw [if_neg (by omega)]; exact hj
  refine ⟨fun b => if b = h.next then some i else φ b, ⟨le, Nat.le_succ _, fun b hb hlt => ⟨by show (if b = h.next then some i else φ b) = none; rw [if_neg (by omega)]; exact hb, by show (h.m.set h.next (some o)).get b = _; rw [T.get_set, if_neg (by omega)]⟩⟩, if_pos rfl, ?_⟩
  have hget : ∀ k, (h.m.set h.next (some o)).get k = if k = h.next then some o else h.m.get k := fun k => T.get_set k
  refine ⟨fun k j o2 hj hk => ?_, fun k j o2 hj hk hr => ?_, fun k k' j j' o2 o3 hj hj' hk hk' hr hcc => ?_, fun k j hj => ?_, hn, rg.below⟩
  · rw [hget] at hk
    by_cases e : k = h.next
    · subst e; rw [if_pos rfl] at hk; cases hk
      rw [if_pos rfl] at hj; cases hj
      exact hx _
    · rw [if_neg e] at hk hj
      exact (rg.dom k j o2 hj hk).mono le
  · rw [hget] at hk
    by_cases e : k = h.next
    · subst e
      rw [if_pos rfl] at hj; cases hj
      exact Nat.le_trans r.below.size hc
    · rw [if_neg e] at hk hj
      exact r.low k j o2 hj hk hr
  · rw [hget] at hk hk'
    by_cases e : k = h.next
    · by_cases e' : k' = h.next
      · rw [e, e']
      · subst e
        rw [if_pos rfl] at hj; cases hj
        rw [if_neg e'] at hj'
        have := (r.lt k' j' hj').1
        omega
    · by_cases e' : k' = h.next
      · subst e'
        rw [if_pos rfl] at hj'; cases hj'
        rw [if_neg e] at hj
        have := (r.lt k j hj).1
        omega
      · rw [if_neg e] at hk hj
        rw [if_neg e'] at hk' hj'
        exact r.inj k k' j j' o2 o3 hj hj' hk hk' hr hcc
  · by_cases e : k = h.next
    · subst e; rw [if_pos rfl] at hj; cases hj
      exact ⟨hl, Nat.lt_succ_self _⟩
    · rw [if_neg e] at hj
      have := rg.lt k j hj
      exact ⟨this.1, Nat.lt_succ_of_lt this.2⟩

/-- Cells that hold plain values only. -/
def plainT (c : T Value) (n : Nat) : Bool := (List.range n).all fun k => match c.get k with
  | some v => pfv v
  | none => false
/-- The block that a call has made. -/
def boxOf : Option (List (Value × AH)) → Option (T Value × Nat × Nat)
  | some [(.pointer (some ⟨b, 0, none⟩), h)] => (match h.m.get b with
    | some (.cells c n op false) => some (c, n, op)
    | _ => none)
  | _ => none
/-- What is known of a function that makes a block. -/
def BoxPost (W : World) (c : T Value) (n op : Nat) : Ending → World → Prop := fun e w' => ∃ i : Im, e = .returned (.pointer (some ⟨i.c, i.d, none⟩)) ∧ W.heap.size ≤ i.c ∧ i.c < w'.heap.size ∧ (∀ φ, OR φ i w' (.cells c n op false)) ∧ Below W.heap.size W w'
theorem box_calls (hN : NoCount P) (hM : P.follows .mixedOrders = true) (LF k : Nat) {f : FuncId} {c : T Value} {n op : Nat} (hs : boxOf (aRun P LF k (.enter f []) ah0) = some (c, n, op)) (hp : plainT c n = true) (W : World) :
    Calls P f #[] W (BoxPost W c n op) := by
  cases hl : aRun P LF k (.enter f []) ah0 with
  | none => rw [hl] at hs; cases hs
  | some l =>
    rw [hl] at hs
    have hc := (run_callsOk (w0 := W) hN hM LF k _ _ _ none0 W (.enter f ⟨[]⟩) hl (R.first W) (.enter .nil)).1 _ _ rfl
    refine Calls.mono hc fun e w' he => ?_
    obtain ⟨v', rfl, v, h', hm, φ', _, hr, hv⟩ := he
    unfold boxOf at hs
    split at hs
    · rename_i b h2 heq
      cases heq
      cases List.mem_singleton.1 hm
      split at hs
      · rename_i c' n' op' ho
        cases hs
        obtain ⟨i, hi, _, rfl⟩ := hv.ptr_inv
        have hi : φ' b = some i := hi
        have hd := hr.dom _ _ _ hi ho
        refine ⟨i, by simp, hr.low _ _ _ hi ho rfl, (hr.lt _ _ hi).1, fun φ => ?_, hr.below⟩
        obtain ⟨h1, h2, h3, arr, el, h4, h5, h6, h7⟩ := hd
        refine ⟨h1, h2, h3, arr, el, h4, h5, h6, fun k hk => ?_⟩
        obtain ⟨u, u', g1, g2, g3⟩ := h7 k hk
        have hall := List.all_eq_true.1 hp k (List.mem_range.2 hk)
        rw [g1] at hall
        have e := pfv_same hall g3
        subst e
        exact ⟨u', u', g1, g2, pfv_refl φ hall⟩
      · cases hs
    · cases hs
/-- Calls of a function that is known to make such a block. -/
def knownBox (f : FuncId) (c : T Value) (n op : Nat) (call : Call1) : Call1 := fun an h => match an with
  | .enter g [] => if g = f then (some [(.pointer (some ⟨h.next, 0, none⟩), ⟨h.m.set h.next (some (.cells c n op false)), h.next + 1⟩)]) else call an h
  | _ => call an h
theorem knownBox_ok {f : FuncId} {c : T Value} {n op : Nat} (hf : ∀ W, Calls P f #[] W (BoxPost W c n op)) {call : Call1} (hc : CallsOk w0 P call) : CallsOk w0 P (knownBox f c n op call) := by
  intro an h l φ w nx hs hr hnr
  unfold knownBox at hs
  split at hs
  · rename_i g
    split at hs
    · rename_i hg
      subst hg
      · cases hs
        cases hnr with
        | enter hl =>
          cases hl
          refine ⟨?_, fun _ _ _ _ _ e => by cases e⟩
          intro f' args e
          cases e
          refine Calls.mono (hf w) fun e w' he => ?_
          obtain ⟨i, rfl, h1, h2, h3, hb⟩ := he
          obtain ⟨φ', nx, hi, r'⟩ := hr.adopt hb h1 h2 trivial h3
          refine ⟨_, rfl, _, _, List.mem_singleton.2 rfl, φ', nx, r', ?_⟩
          · have := VR.ptr (φ := φ') (a := ⟨h.next, 0, none⟩) i hi rfl
            simpa only [Nat.zero_add] using this
    · exact hc _ _ _ _ _ _ hs hr hnr
  · exact hc _ _ _ _ _ _ hs hr hnr
end
end Go.X
namespace Go.X
noncomputable section
open Go Go.RowKit
variable {w0 w w' : World} {φ φ' : Phi} {h h' : AH} {P : Program} {n : Nat} {t : T Value}

/-- Some pieces of a spine; what is kept of the memory behind them. -/
def aPiece (P : Program) (call : Call1) (n LF k : Nat) (keep : List Nat) (c : Code) (t : T Value) (h : AH) : Option (T Value × List Nat × AH) := match aSpine P call n LF k c t [] h with
  | some (t', ds', h') => some (t', ds', gc keep h')
  | none => none
theorem Good.piece (hN : NoCount P) (hM : P.follows .mixedOrders = true) {call : Call1} (hc : CallsOk w0 P call) {LF : Nat} {Q : Exit → Act → World → Prop} {k : Nat} {keep : List Nat} {c : Code} {t' : T Value} {h' : AH}
    (hs : aPiece P call n LF k keep c t h = some (t', [], h')) (g : Good w0 P n Q (back k c) t' [] h') : Good w0 P n Q c t [] h := by
  unfold aPiece at hs
  split at hs
  · rename_i t1 ds1 h1 he
    simp only [Option.some.injEq, Prod.mk.injEq] at hs
    obtain ⟨rfl, rfl, rfl⟩ := hs
    exact Good.spine hN hM hc LF k he (Good.gc keep g)
  · cases hs
/-- Calls of functions that return true, and of functions that make a block. -/
def ov0 (call : Call1) : Call1 := call
theorem ov0_ok {call : Call1} (hc : CallsOk w0 P call) : CallsOk w0 P (ov0 call) := hc
end
end Go.X
namespace Go.X
noncomputable section
open Go Go.RowKit
variable {w0 w w' : World} {φ φ' : Phi} {h h' : AH} {P : Program} {n : Nat} {t : T Value}

theorem go_append {α β : Type} (f : α → Option (List β)) : ∀ (l m : List α), bindL.go f (l ++ m) = joinL (bindL.go f l) (bindL.go f m)
  | [], m => by
    show bindL.go f m = joinL (some []) (bindL.go f m)
    cases bindL.go f m <;> rfl
  | [a], [] => by
    show f a = joinL (f a) (some [])
    cases f a with
    | none => rfl
    | some x => simp [joinL]
  | [a], b :: m => rfl
  | a :: b :: l, m => by
    have ih := go_append f (b :: l) m
    show joinL (f a) (bindL.go f (b :: (l ++ m))) = joinL (joinL (f a) (bindL.go f (b :: l))) (bindL.go f m)
    rw [show b :: (l ++ m) = (b :: l) ++ m from rfl, ih]
    cases f a <;> cases bindL.go f (b :: l) <;> cases bindL.go f m <;> simp [joinL]
theorem bindL_go_assoc {α β γ : Type} (f : α → Option (List β)) (g : β → Option (List γ)) : ∀ (l : List α), bindL (bindL.go f l) g = bindL.go (fun a => bindL (f a) g) l
  | [] => rfl
  | [a] => rfl
  | a :: b :: l => by
    have ih := bindL_go_assoc f g (b :: l)
    show bindL (joinL (f a) (bindL.go f (b :: l))) g = joinL (bindL (f a) g) (bindL.go (fun a => bindL (f a) g) (b :: l))
    rw [← ih]
    cases f a with
    | none => cases bindL.go f (b :: l) <;> rfl
    | some x => cases bindL.go f (b :: l) with
      | none =>
        show none = joinL (bindL.go g x) none
        cases bindL.go g x <;> rfl
      | some y => exact go_append g x y
theorem bindL_assoc {α β γ : Type} (x : Option (List α)) (f : α → Option (List β)) (g : β → Option (List γ)) : bindL (bindL x f) g = bindL x (fun a => bindL (f a) g) := by
  cases x with
  | none => rfl
  | some l => exact bindL_go_assoc f g l
theorem bindL_one {α β : Type} (a : α) (f : α → Option (List β)) : bindL (some [a]) f = f a := rfl

/-- A part of a code, by the way to it (the last turn first). -/
def kid (i : Nat) : Code → Code
  | .seq x y => if i = 0 then x else y
  | .cond _ x y => if i = 0 then x else y
  | .block _ x => x
  | .loop x => x
  | _ => .skip
def bodyOf (P : Program) (f : FuncId) : Code := match P.funcs[f]? with
  | some fn => (match fn.body with | some c => c | none => .skip)
  | none => .skip
def codeAt (P : Program) (f : FuncId) : List Nat → Code
  | [] => bodyOf P f
  | i :: p => kid i (codeAt P f p)
def numT (P : Program) (f : FuncId) : Nat := match P.funcs[f]? with
  | some fn => fn.ntmps
  | none => 0
def resOf (P : Program) (f : FuncId) : List ResultVar := match P.funcs[f]? with
  | some fn => fn.results.toList
  | none => []
inductive K where
  | seq (p : List Nat)
  | loop (p : List Nat) (k : Nat)
  | block (id : Nat)
structure Susp where
  f : FuncId
  lv : Nat
  p : List Nat
  i : Nat
  ks : List K
  t : T Value
  ds : List Nat
inductive M where
  | code (f : FuncId) (lv : Nat) (p : List Nat) (ks : List K) (t : T Value) (ds : List Nat) (h : AH) (st : List Susp)
  | ops (f : FuncId) (lv : Nat) (p : List Nat) (i : Nat) (ks : List K) (t : T Value) (ds : List Nat) (h : AH) (st : List Susp)
  | exit (f : FuncId) (lv : Nat) (ex : Ex) (ks : List K) (t : T Value) (ds : List Nat) (h : AH) (st : List Susp)
  | ret (v : Value) (h : AH) (st : List Susp)

variable (P) in
def regionOps (c : Code) : Array Oper := match c with
  | .region _ ops _ => ops
  | _ => #[]
abbrev Res := Option (List (Value × AH))
section
variable (ov : Call1 → Call1) (P) (LF : Nat)
abbrev lvCall (lv : Nat) : Call1 := aRunW ov P LF lv
def finish (f : FuncId) (next : Value × AH → Res) (o : Out) : Res := match o.ex with
  | .exit _ => none
  | _ => (match aLeave o.ds o.h with
    | some h' => (match aRes P (numT P f) o.t h' (resOf P f) with
      | some v => next (v, h')
      | none => none)
    | none => none)
def semK (f : FuncId) (lv : Nat) (next : Value × AH → Res) : List K → Out → Res
  | [], o => finish P f next o
  | .seq p :: ks, o => bindL (thenX (aCode P (lvCall P ov LF lv) (numT P f) LF none (codeAt P f p)) o) (semK f lv next ks)
  | .loop p k :: ks, o => bindL (thenX (aLoop (aCode P (lvCall P ov LF lv) (numT P f) LF none (codeAt P f p)) k) o) (semK f lv next ks)
  | .block id :: ks, o => bindL (outX id o) (semK f lv next ks)
def semOps (f : FuncId) (lv : Nat) (p : List Nat) (i : Nat) (t : T Value) (ds : List Nat) (h : AH) (k : Out → Res) : Res :=
  bindL (aOps P (lvCall P ov LF lv) (numT P f) (regionOps (codeAt P f p)) ((regionOps (codeAt P f p)).toList.drop i) t h) fun q => k ⟨.normal, q.1, ds, q.2⟩
def dstOf (f : FuncId) (p : List Nat) (i : Nat) : Option Tmp := match (regionOps (codeAt P f p))[i]? with
  | some o => o.dst
  | none => none
def semR : List Susp → Value × AH → Res
  | [], q => some [q]
  | s :: st, q => (match aPut (numT P s.f) s.t (dstOf P s.f s.p s.i) q.1 with
    | some t' => semOps P ov LF s.f s.lv s.p (s.i + 1) t' s.ds q.2 (semK P ov LF s.f s.lv (semR st) s.ks)
    | none => none)
def semM : M → Res
  | .code f lv p ks t ds h st => bindL (aCode P (lvCall P ov LF lv) (numT P f) LF none (codeAt P f p) t ds h) (semK P ov LF f lv (semR P ov LF st) ks)
  | .ops f lv p i ks t ds h st => semOps P ov LF f lv p i t ds h (semK P ov LF f lv (semR P ov LF st) ks)
  | .exit f lv ex ks t ds h st => semK P ov LF f lv (semR P ov LF st) ks ⟨ex, t, ds, h⟩
  | .ret v h st => semR P ov LF st (v, h)

/-- The calls that are entered. -/
def enters (E : List FuncId) (l : Option (List (AN × AH))) : Option (FuncId × List Value × AH) := match l with
  | some [(.enter g args, h')] => if E.contains g then some (g, args, h') else none
  | _ => none
def canEnter (g : FuncId) (args : List Value) : Bool := match P.funcs[g]? with
  | some fn => (match fn.body with
    | some _ => decide (args.length ≤ fn.ntmps)
    | none => false)
  | none => false
def calm (E : List FuncId) (ops : Array Oper) : Bool := ops.toList.all fun o => match o.op with
  | .call ⟨.value (.func g), _, _⟩ => !E.contains g
  | .call ⟨.value _, _, _⟩ => E.isEmpty
  | .call ⟨.invoke _ _, _, _⟩ => E.isEmpty
  | _ => true
def step1op (E : List FuncId) (f : FuncId) (lv : Nat) (p : List Nat) (i : Nat) (ks : List K) (t : T Value) (ds : List Nat) (h : AH) (st : List Susp) (o : Oper) : Option M :=
  match aWant (numT P f) t (regionOps (codeAt P f p)) o with
  | true => (match enters E (aOp P (numT P f) t h o.op) with
    | some (g, args, h') => (match lv with
      | lv' + 1 => if canEnter P g args then some (.code g lv' [] [] (T.fill args 0 .e) [] h' (⟨f, lv' + 1, p, i, ks, t, ds⟩ :: st)) else none
      | 0 => none)
    | none => (match aStep P (lvCall P ov LF lv) (numT P f) t h o.op with
      | some [(v, h')] => (match aPut (numT P f) t o.dst v with
        | some t' => some (.ops f lv p (i + 1) ks t' ds h' st)
        | none => none)
      | _ => none))
  | false => (match aPut (numT P f) t o.dst undef with
    | some t' => some (.ops f lv p (i + 1) ks t' ds h st)
    | none => none)
def oneOut (f : FuncId) (lv : Nat) (ks : List K) (st : List Susp) : COuts → Option M
  | some [o] => some (.exit f lv o.ex ks o.t o.ds o.h st)
  | _ => none
def step (E : List FuncId) : M → Option M
  | .code f lv p ks t ds h st => (match codeAt P f p with
    | .seq _ _ => some (.code f lv (0 :: p) (.seq (1 :: p) :: ks) t ds h st)
    | .cond c _ _ => (match aO (numT P f) t c with
      | some (.bool true) => some (.code f lv (0 :: p) ks t ds h st)
      | some (.bool false) => some (.code f lv (1 :: p) ks t ds h st)
      | _ => none)
    | .block id _ => some (.code f lv (0 :: p) (.block id :: ks) t ds h st)
    | .loop _ => (match LF with
      | k + 1 => some (.code f lv (0 :: p) (.loop (0 :: p) k :: ks) t ds h st)
      | 0 => none)
    | .region _ ops false => if calm E ops then oneOut f lv ks st (cRegion P (lvCall P ov LF lv) (numT P f) ops false t ds h) else some (.ops f lv p 0 ks t ds h st)
    | c => oneOut f lv ks st (aCode P (lvCall P ov LF lv) (numT P f) LF none c t ds h))
  | .ops f lv p i ks t ds h st => (match (regionOps (codeAt P f p))[i]? with
    | some o => step1op P ov LF E f lv p i ks t ds h st o
    | none => some (.exit f lv .normal ks t ds h st))
  | .exit f lv ex ks t ds h st => (match ks with
    | [] => (match ex with
      | .exit _ => none
      | _ => (match aLeave ds h with
        | some h' => (match aRes P (numT P f) t h' (resOf P f) with
          | some v => some (.ret v h' st)
          | none => none)
        | none => none))
    | .seq p :: ks => (match ex with
      | .normal => some (.code f lv p ks t ds h st)
      | ex => some (.exit f lv ex ks t ds h st))
    | .loop p k :: ks => (match ex, k with
      | .normal, k + 1 => some (.code f lv p (.loop p k :: ks) t ds h st)
      | .normal, 0 => none
      | ex, _ => some (.exit f lv ex ks t ds h st))
    | .block id :: ks => (match ex with
      | .exit k => if k = id then some (.exit f lv .normal ks t ds h st) else some (.exit f lv (.exit k) ks t ds h st)
      | ex => some (.exit f lv ex ks t ds h st)))
  | .ret v h st => (match st with
    | [] => none
    | s :: st => (match aPut (numT P s.f) s.t (dstOf P s.f s.p s.i) v with
      | some t' => some (.ops s.f s.lv s.p (s.i + 1) s.ks t' s.ds h st)
      | none => none))
end

theorem loop_codeAt {P : Program} {f : FuncId} {p : List Nat} {x : Code} (hc : codeAt P f p = .loop x) (i : Nat) : codeAt P f (i :: p) = x := by
  show kid i (codeAt P f p) = x
  rw [hc]; rfl

theorem oneOut_ok {ov : Call1 → Call1} {LF : Nat} {f : FuncId} {lv : Nat} {ks : List K} {st : List Susp} {x : COuts} {m' : M} (hs : oneOut f lv ks st x = some m') :
    semM P ov LF m' = bindL x (semK P ov LF f lv (semR P ov LF st) ks) := by
  unfold oneOut at hs
  split at hs
  · cases hs; rfl
  · cases hs

theorem step_sem {ov : Call1 → Call1} {LF : Nat} {E : List FuncId} (hE : ∀ g, E.contains g = true → ∀ c args h, ov c (.enter g args) h = c (.enter g args) h) {m m' : M} (hs : step P ov LF E m = some m') :
    semM P ov LF m = semM P ov LF m' := by
  cases m with
  | code f lv p ks t ds h st =>
    simp only [step] at hs
    split at hs
    · rename_i x y hc
      cases hs
      have e0 : codeAt P f (0 :: p) = x := by show kid 0 (codeAt P f p) = x; rw [hc]; rfl
      have e1 : codeAt P f (1 :: p) = y := by show kid 1 (codeAt P f p) = y; rw [hc]; rfl
      simp only [semM, semK, e0, e1, hc]
      exact bindL_assoc _ _ _
    · rename_i c x y hc
      have e0 : codeAt P f (0 :: p) = x := by show kid 0 (codeAt P f p) = x; rw [hc]; rfl
      have e1 : codeAt P f (1 :: p) = y := by show kid 1 (codeAt P f p) = y; rw [hc]; rfl
      split at hs
      · rename_i ho
        cases hs
        simp only [semM, hc, e0]
        congr 1
        show cCond _ c _ _ t ds h = _
        simp only [cCond, ho]
        rfl
      · rename_i ho
        cases hs
        simp only [semM, hc, e1]
        congr 1
        show cCond _ c _ _ t ds h = _
        simp only [cCond, ho]
        rfl
      · cases hs
    · rename_i id x hc
      cases hs
      have e0 : codeAt P f (0 :: p) = x := by show kid 0 (codeAt P f p) = x; rw [hc]; rfl
      simp only [semM, semK, hc, e0]
      exact bindL_assoc _ _ _
    · rename_i x hc
      split at hs
      · rename_i k
        cases hs
        have e0 : codeAt P f (0 :: p) = x := loop_codeAt hc 0
        simp only [semM, semK, hc, e0]
        exact bindL_assoc _ _ _
      · cases hs
    · rename_i id ops hc
      split at hs
      · rw [oneOut_ok hs]
        simp only [semM, hc]
        rfl
      · cases hs
        simp only [semM, semOps, hc, regionOps, List.drop_zero]
        show bindL (cRegion _ _ _ ops false t ds h) _ = _
        unfold cRegion
        rw [bindL_assoc]
        rfl
    · rw [oneOut_ok hs]
      rfl
  | ops f lv p i ks t ds h st =>
    simp only [step] at hs
    split at hs
    · rename_i o ho
      have hdrop : (regionOps (codeAt P f p)).toList.drop i = o :: (regionOps (codeAt P f p)).toList.drop (i + 1) := by
        have h1 : (regionOps (codeAt P f p)).toList[i]? = some o := by rw [Array.getElem?_toList]; exact ho
        obtain ⟨hlt, he⟩ := List.getElem?_eq_some_iff.1 h1
        rw [List.drop_eq_getElem_cons hlt, he]
      have hsem : semM P ov LF (.ops f lv p i ks t ds h st) = bindL (opsStep P (lvCall P ov LF lv) (numT P f) (regionOps (codeAt P f p)) o (aOps P (lvCall P ov LF lv) (numT P f) (regionOps (codeAt P f p)) ((regionOps (codeAt P f p)).toList.drop (i + 1))) t h) (fun q => semK P ov LF f lv (semR P ov LF st) ks ⟨.normal, q.1, ds, q.2⟩) := by
        simp only [semM, semOps, hdrop]; rfl
      rw [hsem]
      unfold step1op at hs
      unfold opsStep
      split at hs
      · rename_i hw
        rw [hw]
        split at hs
        · rename_i g args h1 hen
          cases lv with
          | zero => cases hs
          | succ lv' =>
          dsimp only at hs
          split at hs
          · rename_i hce
            cases hs
            unfold enters at hen
            split at hen
            · rename_i g' args' h2 hao
              split at hen
              · rename_i hg
                simp only [Option.some.injEq, Prod.mk.injEq] at hen
                obtain ⟨rfl, rfl, rfl⟩ := hen
                have hst : aStep P (lvCall P ov LF (lv' + 1)) (numT P f) t h o.op = aFun P LF (lvCall P ov LF lv') (.enter g' args') h2 := by
                  unfold aStep
                  rw [hao]
                  exact hE g' hg _ args' h2
                rw [hst]
                have hdst : dstOf P f p i = o.dst := by unfold dstOf; rw [ho]
                simp only [canEnter] at hce
                simp only [semM, codeAt, bodyOf, numT]
                unfold aFun
                split at hce
                · rename_i fn hfn
                  split at hce
                  · rename_i c hb
                    simp only [decide_eq_true_eq] at hce
                    dsimp only
                    rw [hfn]
                    simp only [hb]
                    rw [if_pos hce, bindL_assoc, bindL_assoc]
                    congr 1
                    funext o1
                    obtain ⟨ex, t1, ds1, h3⟩ := o1
                    simp only [semK, finish, numT, resOf, hfn]
                    have fin : ∀ (X : Option AH), bindL (bindL (match X with
                          | some h' => (match aRes P fn.ntmps t1 h' fn.results.toList with
                            | some v => some [(v, h')]
                            | none => none)
                          | none => none) (fun p1 => (Option.rec (motive := fun _ => Option (List (T Value × AH))) none (fun t' => aOps P (lvCall P ov LF (lv' + 1)) (match P.funcs[f]? with | some fn => fn.ntmps | none => 0) (regionOps (codeAt P f p)) ((regionOps (codeAt P f p)).toList.drop (i + 1)) t' p1.2) (aPut (match P.funcs[f]? with | some fn => fn.ntmps | none => 0) t o.dst p1.1)))) (fun q => semK P ov LF f (lv' + 1) (semR P ov LF st) ks ⟨.normal, q.1, ds, q.2⟩) = (match X with
                          | some h' => (match aRes P fn.ntmps t1 h' fn.results.toList with
                            | some v => semR P ov LF (⟨f, lv' + 1, p, i, ks, t, ds⟩ :: st) (v, h')
                            | none => none)
                          | none => none) := by
                      intro X
                      cases X with
                      | none => rfl
                      | some h' =>
                        dsimp only
                        cases aRes P fn.ntmps t1 h' fn.results.toList with
                        | none => rfl
                        | some v =>
                          dsimp only
                          rw [bindL_one]
                          simp only [semR, hdst, numT]
                          cases aPut (match P.funcs[f]? with | some fn => fn.ntmps | none => 0) t o.dst v with
                          | none => rfl
                          | some t' => rfl
                    cases ex with
                    | exit id => rfl
                    | normal => rw [← bindL_assoc]; exact fin _
                    | ret => rw [← bindL_assoc]; exact fin _
                  · cases hce
                · cases hce
              · cases hen
            · cases hen
          · cases hs
        · split at hs
          · rename_i v h1 hst
            split at hs
            · rename_i t' hp
              cases hs
              show bindL (bindL (aStep P (lvCall P ov LF lv) (numT P f) t h o.op) _) _ = _
              rw [hst, bindL_one]
              dsimp only
              rw [hp]
              rfl
            · cases hs
          · cases hs
      · rename_i hw
        rw [hw]
        split at hs
        · rename_i t' hp
          cases hs
          rw [hp]
          rfl
        · cases hs
    · rename_i ho
      cases hs
      have hdrop : (regionOps (codeAt P f p)).toList.drop i = [] := by
        have h1 : (regionOps (codeAt P f p)).toList[i]? = none := by rw [Array.getElem?_toList]; exact ho
        exact List.drop_eq_nil_of_le (List.getElem?_eq_none_iff.1 h1)
      simp only [semM, semOps, hdrop]
      rfl
  | exit f lv ex ks t ds h st =>
    simp only [step] at hs
    split at hs
    · split at hs
      · cases hs
      · rename_i hne
        split at hs
        · rename_i h1 hl
          split at hs
          · rename_i v hv
            cases hs
            cases ex with
            | exit id => exact (hne _ rfl).elim
            | normal => simp only [semM, semK, finish, hl, hv]
            | ret => simp only [semM, semK, finish, hl, hv]
          · cases hs
        · cases hs
    · rename_i p ks
      split at hs
      · cases hs; rfl
      · rename_i hne
        cases hs
        cases ex with
        | normal => exact (hne rfl).elim
        | exit id => rfl
        | ret => rfl
    · rename_i p k ks
      split at hs
      · cases hs
        simp only [semM, semK]
        exact bindL_assoc _ _ _
      · cases hs
      · rename_i hne1 hne0
        cases hs
        cases ex with
        | normal =>
          cases k with
          | zero => exact (hne0 rfl rfl).elim
          | succ k => exact (hne1 _ rfl rfl).elim
        | exit id => rfl
        | ret => rfl
    · rename_i id ks
      split at hs
      · rename_i k
        split at hs
        · rename_i he
          cases hs
          simp only [semM, semK, outX]
          subst he
          rw [beq_nat, if_pos rfl]; rfl
        · rename_i he
          cases hs
          simp only [semM, semK, outX]
          rw [beq_nat, if_neg he]; rfl
      · rename_i hne
        cases hs
        cases ex with
        | exit id' => exact (hne _ rfl).elim
        | normal => rfl
        | ret => rfl
  | ret v h st =>
    simp only [step] at hs
    split at hs
    · cases hs
    · rename_i s st
      split at hs
      · rename_i t' hp
        cases hs
        simp only [semM, semR, hp]
      · cases hs

section
variable (P : Program) (ov : Call1 → Call1) (LF : Nat) (E : List FuncId)
def mrun (k : Nat) : M → Option M := Nat.rec (motive := fun _ => M → Option M) some (fun _ ih m => Option.rec (motive := fun _ => Option M) none ih (step P ov LF E m)) k
end
theorem mrun_sem {ov : Call1 → Call1} {LF : Nat} {E : List FuncId} (hE : ∀ g, E.contains g = true → ∀ c args h, ov c (.enter g args) h = c (.enter g args) h) : ∀ (k : Nat) {m m' : M}, mrun P ov LF E k m = some m' → semM P ov LF m = semM P ov LF m'
  | 0, m, m', hs => by cases hs; rfl
  | k + 1, m, m', hs => by
    cases h1 : step P ov LF E m with
    | none =>
      have : (Option.rec (motive := fun _ => Option M) none (mrun P ov LF E k) (step P ov LF E m) : Option M) = some m' := hs
      rw [h1] at this; cases this
    | some m1 =>
      have : (Option.rec (motive := fun _ => Option M) none (mrun P ov LF E k) (step P ov LF E m) : Option M) = some m' := hs
      rw [h1] at this
      exact (step_sem hE h1).trans (mrun_sem hE k this)
/-- What the machine starts with. -/
def start (f : FuncId) (lv : Nat) (args : List Value) (h : AH) : M := .code f lv [] [] (T.fill args 0 .e) [] h []
theorem sem_start {ov : Call1 → Call1} {LF lv : Nat} {f : FuncId} {args : List Value} {h : AH} (hc : canEnter P f args = true) : semM P ov LF (start f lv args h) = aFun P LF (lvCall P ov LF lv) (.enter f args) h := by
  unfold canEnter at hc
  simp only [start, semM, codeAt, bodyOf, numT]
  unfold aFun
  split at hc
  · rename_i fn hfn
    split at hc
    · rename_i c hb
      simp only [decide_eq_true_eq] at hc
      dsimp only
      rw [hfn]
      simp only [hb]
      rw [if_pos hc]
      congr 1
      funext o
      simp only [semK, finish, numT, resOf, hfn]
      rfl
    · cases hc
  · cases hc
theorem yes_of_machine (hN : NoCount P) (hM : P.follows .mixedOrders = true) {ov : Call1 → Call1} (hov : ∀ w0 call, CallsOk w0 P call → CallsOk w0 P (ov call)) {LF lv : Nat} {f : FuncId} {h : AH} (hc : canEnter P f [] = true)
    (hs : semM P ov LF (start f lv [] ah0) = semM P ov LF (.ret (.bool true) h [])) (W : World) : Calls P f #[] W (YesPost W) := by
  rw [sem_start hc] at hs
  have hcc := (fun_ok (w0 := W) hN hM LF (runW_callsOk hN hM LF (hov W) lv) _ _ _ none0 W (.enter f ⟨[]⟩) hs (R.first W) (.enter .nil)).1 _ _ rfl
  refine Calls.mono hcc fun e w' he => ?_
  obtain ⟨v', rfl, v, h', hm, φ', _, hr, hv⟩ := he
  cases List.mem_singleton.1 hm
  cases hv
  exact ⟨rfl, hr.below⟩
end
end Go.X
namespace Go.X
noncomputable section
open Go Go.RowKit
variable {w0 w w' : World} {φ φ' : Phi} {h h' : AH} {P : Program} {n : Nat} {t : T Value}

namespace T
variable {α : Type}
def smart (l : T α) (v : Option α) (r : T α) : T α := match l, v, r with
  | .e, none, .e => .e
  | l, v, r => .n l v r
theorem get_smart (l r : T α) (v : Option α) (k : Nat) : (smart l v r).get k = (T.n l v r).get k := by
  unfold smart
  split
  · rw [get_n]; split
    · rfl
    · split <;> rfl
  · rfl
def del (t : T α) : Nat → T α := T.rec (motive := fun _ => Nat → T α) (fun _ => .e)
  (fun l v r dl dr k => Bool.rec (Bool.rec (smart (dl (Nat.sub (Nat.div k (nat_lit 2)) (nat_lit 1))) v r) (smart l v (dr (Nat.div k (nat_lit 2)))) (Nat.beq (Nat.mod k (nat_lit 2)) (nat_lit 1))) (smart l none r) (Nat.beq k (nat_lit 0))) t
theorem del_n (l r : T α) (v : Option α) (k : Nat) : (T.n l v r).del k = if k = 0 then smart l none r else if k % 2 = 1 then smart l v (r.del (k / 2)) else smart (l.del (k / 2 - 1)) v r := by
  show Bool.rec (motive := fun _ => T α) (Bool.rec (motive := fun _ => T α) (smart (l.del (k / 2 - 1)) v r) (smart l v (r.del (k / 2))) (Nat.beq (k % 2) 1)) (smart l none r) (Nat.beq k 0) = _
  rw [beq_ite, beq_ite]
theorem get_del : ∀ (t : T α) (k j : Nat), (t.del k).get j = if j = k then none else t.get j
  | .e, k, j => by
    show (T.e : T α).get j = _
    rw [get_e]; simp
  | .n l v r, k, j => by
    have il := get_del l
    have ir := get_del r
    rw [del_n]
    by_cases hk : k = 0
    · subst hk
      rw [if_pos rfl, get_smart, get_n, get_n]
      by_cases hj : j = 0 <;> simp [hj]
    · rw [if_neg hk]
      by_cases ho : k % 2 = 1
      · rw [if_pos ho, get_smart, get_n, get_n, ir]
        by_cases hj : j = 0
        · subst hj; rw [if_pos rfl, if_pos rfl, if_neg (by omega)]
        · rw [if_neg hj, if_neg hj]
          by_cases hjo : j % 2 = 1
          · rw [if_pos hjo, if_pos hjo]
            by_cases e : j = k
            · subst e; simp
            · rw [if_neg e, if_neg (by omega)]
          · rw [if_neg hjo, if_neg hjo, if_neg (by intro e; subst e; exact hjo ho)]
      · rw [if_neg ho, get_smart, get_n, get_n, il]
        by_cases hj : j = 0
        · subst hj; rw [if_pos rfl, if_pos rfl, if_neg (by omega)]
        · rw [if_neg hj, if_neg hj]
          by_cases hjo : j % 2 = 1
          · rw [if_pos hjo, if_pos hjo, if_neg (by intro e; subst e; exact ho hjo)]
          · rw [if_neg hjo, if_neg hjo]
            by_cases e : j = k
            · subst e; simp
            · rw [if_neg e, if_neg (by omega)]
end T
/-- The blocks that a value names. -/
def blocksV : Nat → Value → List Nat
  | _, .pointer (some a) => [a.block]
  | _, .slice (some a) _ _ => [a.block]
  | _, .map (some r) => [r]
  | k + 1, .iface _ v => blocksV k v
  | k + 1, .agg ⟨l⟩ => l.flatMap (blocksV k)
  | k + 1, .tuple ⟨l⟩ => l.flatMap (blocksV k)
  | _, _ => []
def blocksT : T Value → List Nat
  | .e => []
  | .n l v r => blocksT l ++ ((match v with
    | some v => blocksV 9 v
    | none => []) ++ blocksT r)
def blocksO : AObj → List Nat
  | .cells c _ _ _ => blocksT c
  | .map es _ _ => es.flatMap fun e => blocksV 9 e.1 ++ blocksV 9 e.2.1
  | _ => []
def memN (k : Nat) : List Nat → Bool
  | [] => false
  | x :: l => if Nat.beq k x then true else memN k l
/-- The blocks from a number on that can be come to from some. -/
def reachF (h : AH) (lo : Nat) : Nat → List Nat → List Nat → List Nat
  | 0, _, done => done
  | _, [], done => done
  | f + 1, b :: todo, done => if Nat.ble lo b then (if memN b done then reachF h lo f todo done else (match h.m.get b with
      | some o => reachF h lo f (blocksO o ++ todo) (b :: done)
      | none => reachF h lo f todo done)) else reachF h lo f todo done
/-- The blocks from a number on, so many, but for some. -/
def delN (keep : List Nat) (lo : Nat) (k : Nat) (t : T AObj) : T AObj := Nat.rec (motive := fun _ => T AObj) t (fun i ih => match memN (Nat.add lo i) keep with
  | true => ih
  | false => ih.del (Nat.add lo i)) k
theorem delN_get (keep : List Nat) (lo : Nat) : ∀ (k : Nat) (t : T AObj) (j : Nat), (∀ o, (delN keep lo k t).get j = some o → t.get j = some o) ∧ (j < lo → (delN keep lo k t).get j = t.get j)
  | 0, t, j => ⟨fun _ h => h, fun _ => rfl⟩
  | k + 1, t, j => by
    obtain ⟨h1, h2⟩ := delN_get keep lo k t j
    have e : delN keep lo (k + 1) t = match memN (lo + k) keep with
      | true => delN keep lo k t
      | false => (delN keep lo k t).del (lo + k) := rfl
    rw [e]
    cases memN (lo + k) keep with
    | true => exact ⟨h1, h2⟩
    | false =>
      dsimp only
      rw [T.get_del]
      refine ⟨fun o ho => ?_, fun hj => by rw [if_neg (by omega)]; exact h2 hj⟩
      split at ho
      · cases ho
      · exact h1 o ho
def dropNew (keep : List Nat) (h h' : AH) : AH := ⟨delN keep h.next (Nat.sub h'.next h.next) h'.m, h'.next⟩
theorem dropNew_get {keep : List Nat} {b : Nat} {o : AObj} (hb : (dropNew keep h h').m.get b = some o) : h'.m.get b = some o := (delN_get keep h.next (h'.next - h.next) h'.m b).1 o hb
theorem R.dropNew {keep : List Nat} (r : R w0 φ h' w) : R w0 φ (dropNew keep h h') w :=
  ⟨fun b i o hi ho => r.dom b i o hi (dropNew_get ho), fun b i o hi ho => r.low b i o hi (dropNew_get ho), fun b b' i i' o o' hi hi' ho ho' => r.inj b b' i i' o o' hi hi' (dropNew_get ho) (dropNew_get ho'), r.lt, r.nx, r.below⟩
/-- Calls of some functions behind which of what they laid only that is needed that their result names. -/
def dropCall (fs : List FuncId) (call : Call1) : Call1 := fun an h => match an with
  | .enter g args => (match memN g fs with
    | true => (match call (.enter g args) h with
      | some l => some (l.map fun p => (p.1, dropNew (reachF p.2 h.next 10000 (blocksV 9 p.1) []) h p.2))
      | none => none)
    | false => call (.enter g args) h)
  | an => call an h
theorem dropCall_ok {fs : List FuncId} {call : Call1} (hc : CallsOk w0 P call) : CallsOk w0 P (dropCall fs call) := by
  intro an h l φ w nx hs hr hnr
  unfold dropCall at hs
  split at hs
  · rename_i g args
    split at hs
    · split at hs
      · rename_i l0 h0
        cases hs
        obtain ⟨c1, c2⟩ := hc _ _ _ _ _ _ h0 hr hnr
        refine ⟨fun f args' e => (c1 f args' e).mono ?_, fun b f tmps asg body e m => (by subst e; cases hnr)⟩
        rintro e w' ⟨v', rfl, v, h', hm, φ', nx', r', hv⟩
        refine ⟨v', rfl, v, dropNew _ h h', List.mem_map.2 ⟨_, hm, rfl⟩, φ', ⟨nx'.le, nx'.next, fun b hb hlt => ?_⟩, r'.dropNew, hv⟩
        obtain ⟨g1, g2⟩ := nx'.ghost b hb hlt
        exact ⟨g1, ((delN_get _ h.next (h'.next - h.next) h'.m b).2 hlt).trans g2⟩
      · cases hs
    · exact hc _ _ _ _ _ _ hs hr hnr
  · exact hc _ _ _ _ _ _ hs hr hnr
theorem yes_calls_ov (hN : NoCount P) (hM : P.follows .mixedOrders = true) (LF : Nat) {call : Call1} (hcall : ∀ W, CallsOk W P call) {f : FuncId} {args : List Value} {args' : Array Value} {W : World}
    (ha : LR none0 args args'.toList) (hs : allYes (aFun P LF call (.enter f args) ah0) = true) :
    Calls P f args' W fun e w' => e = .returned (.bool true) ∧ Below W.heap.size W w' := by
  cases hl : aFun P LF call (.enter f args) ah0 with
  | none => rw [hl] at hs; cases hs
  | some l =>
    rw [hl] at hs
    have hc := (fun_ok (w0 := W) hN hM LF (hcall W) _ _ _ none0 W (.enter f ⟨args'.toList⟩) hl (R.first W) (.enter ha)).1 _ _ rfl
    refine Calls.mono hc fun e w' he => ?_
    obtain ⟨v', rfl, v, h', hm, φ', _, hr, hv⟩ := he
    have := List.all_eq_true.1 hs _ hm
    refine ⟨?_, hr.below⟩
    dsimp only at this
    unfold yes at this
    split at this
    · cases hv; rfl
    · cases this
end
end Go.X
