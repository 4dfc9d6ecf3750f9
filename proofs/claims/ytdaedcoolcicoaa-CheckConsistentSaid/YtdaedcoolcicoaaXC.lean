/- The closed evaluator, part C: what an operation does. -/
import Derived.Test.YtdaedcoolcicoaaXB
namespace Go.X
noncomputable section
open Go Go.RowKit
variable {w0 w w' : World} {φ φ' : Phi} {h h' : AH} {P : Program} {n : Nat} {t : T Value}

inductive AN where
  | val (v : Value)
  | skip
  | enter (f : FuncId) (args : List Value)
  | round (b : Nat) (ts : T Value) (sz : Nat) (asg body : Code)
abbrev Outs := Option (List (AN × AH))
def one (v : Value) (h : AH) : Outs := some [(.val v, h)]
def ov (x : Option Value) (h : AH) : Outs := match x with | some v => some [(.val v, h)] | none => none
def ovh (x : Option (Value × AH)) : Outs := match x with | some (v, h) => some [(.val v, h)] | none => none
def osk (x : Option AH) : Outs := match x with | some h => some [(.skip, h)] | none => none
def oun (x : Option AH) : Outs := match x with | some h => some [(.val undef, h)] | none => none

inductive NR (φ : Phi) : AN → Next → Prop
  | val {v v' : Value} (h : VR φ v v') : NR φ (.val v) (.value v')
  | skip : NR φ .skip .skip
  | enter {f : FuncId} {l l' : List Value} (h : LR φ l l') : NR φ (.enter f l) (.enter f ⟨l'⟩)
  | round {b : Nat} {i : Im} {ts : T Value} {sz : Nat} {asg body : Code} {fn : FuncId} {arr : Array Value} (hb : φ b = some i) (hf : FR φ sz ts arr) : NR φ (.round b ts sz asg body) (.round i.c fn arr asg body)
def Sim (w0 : World) (P : Program) (φ : Phi) (h : AH) (w : World) (s : Sem Next) (l : List (AN × AH)) : Prop :=
  ∃ an h', (an, h') ∈ l ∧ ∃ nx w' φ', s.run P w = .ok nx w' ∧ Nx φ φ' h h' ∧ R w0 φ' h' w' ∧ NR φ' an nx
theorem Sim.ofV {s : Sem Value} {v : Value} {l : List (AN × AH)} (hs : SimV w0 P φ h w s v h') (hm : (.val v, h') ∈ l) : Sim w0 P φ h w (do pure (.value (← s))) l := by
  obtain ⟨v', w', φ', h1, h2, h3, h4⟩ := hs
  exact ⟨_, _, hm, .value v', w', φ', by rw [Sem.run_bind, h1]; rfl, h2, h3, .val h4⟩
theorem Sim.ofU {s : Sem Unit} {l : List (AN × AH)} (hs : ∃ w', s.run P w = .ok () w' ∧ Nx φ φ h h' ∧ R w0 φ h' w') (hm : (.skip, h') ∈ l) : Sim w0 P φ h w (do s; pure .skip) l := by
  obtain ⟨w', h1, h2, h3⟩ := hs
  exact ⟨_, _, hm, .skip, w', φ, by rw [Sem.run_bind, h1]; rfl, h2, h3, .skip⟩
theorem Sim.ov {s : Sem Value} {x : Option Value} {l : List (AN × AH)} (hl : X.ov x h = some l) (hs : ∀ v, x = some v → SimV w0 P φ h w s v h) : Sim w0 P φ h w (do pure (.value (← s))) l := by
  unfold X.ov at hl
  split at hl
  · cases hl; exact .ofV (hs _ rfl) (List.mem_singleton.2 rfl)
  · cases hl
theorem Sim.ovh {s : Sem Value} {x : Option (Value × AH)} {l : List (AN × AH)} (hl : X.ovh x = some l) (hs : ∀ v h', x = some (v, h') → SimV w0 P φ h w s v h') : Sim w0 P φ h w (do pure (.value (← s))) l := by
  unfold X.ovh at hl
  split at hl
  · cases hl; exact .ofV (hs _ _ rfl) (List.mem_singleton.2 rfl)
  · cases hl
theorem Sim.oun {s : Sem Value} {x : Option AH} {l : List (AN × AH)} (hl : X.oun x = some l) (hs : ∀ h', x = some h' → SimV w0 P φ h w s undef h') : Sim w0 P φ h w (do pure (.value (← s))) l := by
  unfold X.oun at hl
  split at hl
  · cases hl; exact .ofV (hs _ rfl) (List.mem_singleton.2 rfl)
  · cases hl
theorem Sim.osk {s : Sem Unit} {x : Option AH} {l : List (AN × AH)} (hl : X.osk x = some l) (hs : ∀ h', x = some h' → ∃ w', s.run P w = .ok () w' ∧ Nx φ φ h h' ∧ R w0 φ h' w') : Sim w0 P φ h w (do s; pure .skip) l := by
  unfold X.osk at hl
  split at hl
  · cases hl; exact .ofU (hs _ rfl) (List.mem_singleton.2 rfl)
  · cases hl

/-- Operands. -/
def aO (n : Nat) (t : T Value) (x : Operand) : Option Value := Operand.rec (motive := fun _ => Option Value)
  (fun k => Bool.rec (motive := fun _ => Option Value) (some (Option.rec (motive := fun _ => Value) undef (fun v => v) (t.get k))) none (Nat.ble n k))
  (fun v => Bool.rec (motive := fun _ => Option Value) none (some v) (pfv v)) (fun _ => none) (fun f => some (.func (.func f) #[] #[])) x
theorem aO_eq (n : Nat) (t : T Value) (x : Operand) : aO n t x = if opnOk n x then aEv t x else none := by
  cases x with
  | tmp k =>
    show Bool.rec (motive := fun _ => Option Value) _ _ (Nat.ble n k) = _
    cases hb : Nat.ble n k with
    | true =>
      have : ¬ k < n := Nat.not_lt.2 (Nat.le_of_ble_eq_true hb)
      simp [opnOk, this]
    | false =>
      have : k < n := Nat.lt_of_not_le (fun hle => by rw [Nat.ble_eq_true_of_le hle] at hb; cases hb)
      simp only [opnOk, this, decide_true, if_true, aEv]
      cases t.get k <;> rfl
  | const v =>
    show Bool.rec (motive := fun _ => Option Value) _ _ (pfv v) = _
    cases hb : pfv v <;> simp [opnOk, aEv, hb]
  | global g => rfl
  | func f => rfl
theorem aO_ok {a : Act} (f : FR φ n t a.tmps) {x : Operand} {v : Value} (hs : aO n t x = some v) : VR φ v (a.eval x) := by
  rw [aO_eq] at hs
  split at hs
  · exact aEv_ok f ‹_› hs
  · cases hs
def aOO (n : Nat) (t : T Value) : Option Operand → Option (Option Value)
  | none => some none
  | some x => match aO n t x with | some v => some (some v) | none => none
theorem aOO_ok {a : Act} (f : FR φ n t a.tmps) {x : Option Operand} {v : Option Value} (hs : aOO n t x = some v) : OptR φ v (x.map a.eval) := by
  cases x with
  | none => simp only [aOO] at hs; cases hs; exact .none
  | some x =>
    simp only [aOO] at hs
    split at hs
    · rename_i v' hv; cases hs; exact .some (aO_ok f hv)
    · cases hs
def aOs (n : Nat) (t : T Value) : List Operand → Option (List Value)
  | [] => some []
  | x :: l => match aO n t x, aOs n t l with
    | some v, some m => some (v :: m)
    | _, _ => none
theorem aOs_ok {a : Act} (f : FR φ n t a.tmps) : ∀ {l : List Operand} {m : List Value}, aOs n t l = some m → LR φ m (l.map a.eval)
  | [], m, hs => by simp only [aOs] at hs; cases hs; exact .nil
  | x :: l, m, hs => by
    simp only [aOs] at hs
    split at hs
    · rename_i v m' hv hm; cases hs; exact .cons (aO_ok f hv) (aOs_ok f hm)
    · cases hs
def aPs (n : Nat) (t : T Value) : List (Nat × Operand) → Option (List (Nat × Value))
  | [] => some []
  | (i, x) :: l => match aO n t x, aPs n t l with
    | some v, some m => some ((i, v) :: m)
    | _, _ => none
theorem aPs_ok {a : Act} (f : FR φ n t a.tmps) : ∀ {l : List (Nat × Operand)} {m : List (Nat × Value)}, aPs n t l = some m → PR φ m (l.map fun p => (p.1, a.eval p.2))
  | [], m, hs => by simp only [aPs] at hs; cases hs; exact .nil
  | (i, x) :: l, m, hs => by
    simp only [aPs] at hs
    split at hs
    · rename_i v m' hv hm; cases hs; exact .cons (aO_ok f hv) (aPs_ok f hm)
    · cases hs

/-- Steps on values without addresses. -/
def aPure (P : Program) (s : Sem Value) : Option Value := match pureRun P s with
  | some v => if pfv v then some v else none
  | none => none
theorem sim_pure (r : R w0 φ h w) {s : Sem Value} {v : Value} (hs : aPure P s = some v) : SimV w0 P φ h w s v h := by
  unfold aPure at hs
  split at hs
  · rename_i v' hv
    split at hs
    · cases hs; exact .here r (run_of_pure hv w) (pfv_refl φ ‹_›)
    · cases hs
  · cases hs
def aBin (P : Program) (op : BinOp) (T : TypeId) (xo yo : Operand) (x y : Value) (h : AH) : Option Value := match x, y with
  | .int _ _, .int _ _ => aPure P (do eqGuard op T xo yo x y; binOp op T x y)
  | .string a, .string b => aStr op a b
  | _, _ => match aBinV P op T x y h with
    | some v => some v
    | none => if pfv x && pfv y then aPure P (do eqGuard op T xo yo x y; binOp op T x y) else none
theorem sim_bin (r : R w0 φ h w) {op : BinOp} {T : TypeId} {xo yo : Operand} {x y x' y' v : Value} (hs : aBin P op T xo yo x y h = some v) (hx : VR φ x x') (hy : VR φ y y') :
    SimV w0 P φ h w (do eqGuard op T xo yo x' y'; binOp op T x' y') v h := by
  unfold aBin at hs
  split at hs
  · obtain rfl := hx.int_inv
    obtain rfl := hy.int_inv
    exact sim_pure r hs
  · cases hx; cases hy
    exact sim_str r hs
  · split at hs
    · rename_i v' hv
      cases hs
      exact sim_binV r hv hx hy
    · split at hs
      · rename_i hp
        simp only [Bool.and_eq_true] at hp
        obtain rfl := pfv_same hp.1 hx
        obtain rfl := pfv_same hp.2 hy
        exact sim_pure r hs
      · cases hs
def aConv (P : Program) (s d : TypeId) (x : Value) (h : AH) : Option Value := match aB2S P s d x h with
  | some v => some v
  | none => if pfv x then aPure P (convert s d x) else none
theorem sim_conv (r : R w0 φ h w) {s d : TypeId} {x x' v : Value} (hs : aConv P s d x h = some v) (hx : VR φ x x') : SimV w0 P φ h w (convert s d x') v h := by
  unfold aConv at hs
  split at hs
  · rename_i v' hv
    cases hs
    exact sim_b2s r hv hx
  · split at hs
    · rename_i hp
      obtain rfl := pfv_same hp hx
      exact sim_pure r hs
    · cases hs
def pfo : Option Value → Bool
  | none => true
  | some v => pfv v
theorem pfo_same {x x' : Option Value} (hp : pfo x = true) (hx : OptR φ x x') : x' = x := by
  cases hx with
  | none => rfl
  | some h => rw [pfv_same hp h]
def aSl (P : Program) (T : TypeId) (x : Value) (lo hi mx : Option Value) (h : AH) : Option Value := match aSlice P T x lo hi mx h with
  | some v => some v
  | none => if pfv x && pfo lo && pfo hi && pfo mx then aPure P (Instr.sliceAt T x lo hi mx) else none
theorem sim_sl (r : R w0 φ h w) {T : TypeId} {x v x' : Value} {lo hi mx lo' hi' mx' : Option Value} (hs : aSl P T x lo hi mx h = some v) (hx : VR φ x x') (hlo : OptR φ lo lo') (hhi : OptR φ hi hi') (hmx : OptR φ mx mx') :
    SimV w0 P φ h w (Instr.sliceAt T x' lo' hi' mx') v h := by
  unfold aSl at hs
  split at hs
  · rename_i v' hv
    cases hs
    exact sim_slice r hv hx hlo hhi hmx
  · split at hs
    · rename_i hp
      simp only [Bool.and_eq_true] at hp
      obtain rfl := pfv_same hp.1.1.1 hx
      obtain rfl := pfo_same hp.1.1.2 hlo
      obtain rfl := pfo_same hp.1.2 hhi
      obtain rfl := pfo_same hp.2 hmx
      exact sim_pure r hs
    · cases hs
def aUn (P : Program) (op : UnOp) (x : Value) : Option Value := if pfv x then aPure P (Op.unary op x) else none
theorem sim_un (r : R w0 φ h w) {op : UnOp} {x x' v : Value} (hs : aUn P op x = some v) (hx : VR φ x x') : SimV w0 P φ h w (Op.unary op x') v h := by
  unfold aUn at hs
  split at hs
  · rename_i hp
    obtain rfl := pfv_same hp hx
    exact sim_pure r hs
  · cases hs
def nilOk : Value → Bool
  | .pointer (some _) | .iface _ _ | .func (.func _) _ _ => true
  | _ => false

/-- Builtin functions. -/
def aBuiltin (P : Program) (b : Builtin) (Ts : List TypeId) (vs : List Value) (h : AH) : Outs := match b, Ts, vs with
  | .len, [T], [x] => ov (aLen P T x h) h
  | .cap, [T], [x] => ov (aCap P T x) h
  | .append, [T, U], [s, x] => ovh (aAppend P T U s x h)
  | .copy, [T, _], [d, x] => ovh (aCopy P T d x h)
  | .delete, [T, _], [m, k] => oun (aDelete P T m k h)
  | .clear, [T], [x] => oun (aClear P T x h)
  | .max, _, l => if l.all pfv then ov (aPure P (Builtin.max_ #[] 0 ⟨l⟩)) h else none
  | .min, _, l => if l.all pfv then ov (aPure P (Builtin.min_ #[] 0 ⟨l⟩)) h else none
  | _, _, _ => none
theorem all_same {l l' : List Value} (hl : LR φ l l') (hp : l.all pfv = true) : l' = l := by
  induction hl with
  | nil => rfl
  | cons hv _ ih =>
    simp only [List.all_cons, Bool.and_eq_true] at hp
    rw [pfv_same hp.1 hv, ih hp.2]
theorem LR.one_inv {v : Value} {l : List Value} (hl : LR φ [v] l) : ∃ v', l = [v'] ∧ VR φ v v' := by
  cases hl with | cons h t => cases t; exact ⟨_, rfl, h⟩
theorem LR.two_inv {v u : Value} {l : List Value} (hl : LR φ [v, u] l) : ∃ v' u', l = [v', u'] ∧ VR φ v v' ∧ VR φ u u' := by
  cases hl with | cons h t => cases t with | cons k t => cases t; exact ⟨_, _, rfl, h, k⟩
theorem sim_builtin (r : R w0 φ h w) {b : Builtin} {Ts : List TypeId} {vs vs' : List Value} {ty : TypeId} {cs : Array Bool} {l : List (AN × AH)} (hs : aBuiltin P b Ts vs h = some l) (hv : LR φ vs vs') :
    Sim w0 P φ h w (builtin b ⟨Ts⟩ ty cs ⟨vs'⟩) l := by
  unfold aBuiltin at hs
  split at hs
  · obtain ⟨v', rfl, hx⟩ := hv.one_inv
    exact .ov hs (fun v hv => sim_len r hv hx)
  · obtain ⟨v', rfl, hx⟩ := hv.one_inv
    exact .ov hs (fun v hv => sim_cap r hv hx)
  · obtain ⟨v', u', rfl, hx, hy⟩ := hv.two_inv
    exact .ovh hs (fun v h' hv => sim_append r hv hx hy)
  · obtain ⟨v', u', rfl, hx, hy⟩ := hv.two_inv
    exact .ovh hs (fun v h' hv => sim_copy r hv hx hy)
  · obtain ⟨v', u', rfl, hx, hy⟩ := hv.two_inv
    exact .oun hs (fun h' hv => sim_delete r hv hx hy)
  · obtain ⟨v', rfl, hx⟩ := hv.one_inv
    exact .oun hs (fun h' hv => sim_clear r hv hx)
  · split at hs
    · obtain rfl := all_same hv ‹_›
      exact .ov hs (fun v hv => sim_pure r hv)
    · cases hs
  · split at hs
    · obtain rfl := all_same hv ‹_›
      exact .ov hs (fun v hv => sim_pure r hv)
    · cases hs
  · cases hs
end
end Go.X
