/- The closed evaluator, part G: operations in regions. -/
import Derived.Test.YtdaedcoolcicoaaXF
namespace Go.X
noncomputable section
open Go Go.RowKit
variable {w0 w w' : World} {φ φ' : Phi} {h h' : AH} {P : Program} {n : Nat} {t : T Value}

/-- The fence of a frame: of a function (none), or of a round of a loop. -/
def FW : Option Nat → Fence
  | none => Fence.wide
  | some l => Fence.wide.inRound l
theorem FW_fn (q : Option Nat) (f : FuncId) : (FW q).fn f := by cases q <;> trivial
theorem FW_depth (q : Option Nat) : (FW q).depth = none := by cases q <;> rfl
theorem FW_round (q : Option Nat) : (FW q).round = q := by cases q <;> rfl
theorem FW_calls {q : Option Nat} {m : Nat} {f : FuncId} {args : Array Value} {R : Ending → World → Prop} (hc : Calls P f args w R) : CallsIn (FW q) m P f args w R := by
  have h1 : CallsIn Fence.wide m P f args w R := callsIn_wide.2 hc
  cases q with
  | none => exact h1
  | some l => exact h1
theorem FW_roundIn {q : Option Nat} {m l : Nat} {f : FuncId} {tmps : Array Value} {asg body : Code} {R : Ending → World → Prop} (hc : RoundIn Fence.wide m P l f tmps asg body w R) : RoundIn (FW q) m P l f tmps asg body w R := by
  cases q with
  | none => exact hc
  | some k => exact hc

abbrev Call1 := AN → AH → Option (List (Value × AH))
/-- What is asked of the evaluation of calls. -/
def CallsOk (w0 : World) (P : Program) (call : Call1) : Prop :=
  ∀ (an : AN) (h : AH) (l : List (Value × AH)) (φ : Phi) (w : World) (nx : Next), call an h = some l → R w0 φ h w → NR φ an nx →
    let post : Ending → World → Prop := fun e w' => ∃ v', e = .returned v' ∧ ∃ v h', (v, h') ∈ l ∧ ∃ φ', Nx φ φ' h h' ∧ R w0 φ' h' w' ∧ VR φ' v v'
    (∀ f args, nx = .enter f args → Calls P f args w post) ∧
    (∀ b f tmps asg body, nx = .round b f tmps asg body → ∀ m, RoundIn Fence.wide m P b f tmps asg body w post)
def aStep (P : Program) (call : Call1) (n : Nat) (t : T Value) (h : AH) (o : Op) : Option (List (Value × AH)) := bindL (aOp P n t h o) fun p => match p with
  | (.val v, h') => some [(v, h')]
  | (.skip, h') => some [(undef, h')]
  | (an, h') => call an h'
theorem step_ok (hN : NoCount P) {call : Call1} (hc : CallsOk w0 P call) (r : R w0 φ h w) {a : Act} (f : FR φ n t a.tmps) {o : Oper} {l : List (Value × AH)} (hs : aStep P call n t h o.op = some l) {q : Option Nat} {m : Nat}
    {K : Act → World → Prop} {Q : Exit → Act → World → Prop} (hK : ∀ v h' v' w' φ', (v, h') ∈ l → Nx φ φ' h h' → R w0 φ' h' w' → VR φ' v v' → K (a.put o.dst v') w') : o.wpIn (FW q) m P a w K Q := by
  refine ⟨fun f _ => FW_fn q f, ?_⟩
  obtain ⟨l0, h0, hall⟩ := bindL_spec hs
  have hnd : ∀ c, o.op ≠ .defer c := fun c e => by rw [e] at h0; exact aOp_defer h0
  rw [FW_round, Oper.semAt_eq _ _ _ hnd]
  obtain ⟨an, h1, hm, nx, w1, φ1, hrun, nx1, r1, hnr⟩ := sim_op hN r f h0
  obtain ⟨k, hk, hsub⟩ := hall _ hm
  rw [hrun]
  have dep : (FW q).depth.isSome = true → 1 ≤ m := by rw [FW_depth]; intro x; cases x
  cases hnr with
  | val hv =>
    simp only at hk; cases hk
    exact hK _ _ _ _ φ1 (hsub _ (List.mem_singleton.2 rfl)) nx1 r1 hv
  | skip =>
    simp only at hk; cases hk
    exact hK _ _ _ _ φ1 (hsub _ (List.mem_singleton.2 rfl)) nx1 r1 .undef
  | enter hl =>
    have := (hc _ _ _ _ _ _ hk r1 (.enter hl)).1 _ _ rfl
    refine ⟨dep, FW_calls (this.mono ?_)⟩
    rintro e w2 ⟨v', rfl, v, h2, hmem, φ2, nx2, r2, hv⟩
    exact hK _ _ _ _ φ2 (hsub _ hmem) (nx1.trans nx2) r2 hv
  | @round b i ts sz asg body fn arr hb hf =>
    have := (hc _ _ _ _ _ _ hk r1 (.round (fn := fn) hb hf)).2 _ _ _ _ _ rfl (m - 1)
    refine ⟨dep, FW_roundIn (this.mono ?_)⟩
    rintro e w2 ⟨v', rfl, v, h2, hmem, φ2, nx2, r2, hv⟩
    exact hK _ _ _ _ φ2 (hsub _ hmem) (nx1.trans nx2) r2 hv

/-! Guards. -/
def aYd (n : Nat) (t : T Value) (ops : Array Oper) (j : Nat) : Option Bool := match ops[j]? with
  | some o => (match o.dst with
    | some d => if d < n then (match t.get d with
      | some (.bool b) => some b
      | _ => none) else none
    | none => none)
  | none => none
theorem yd_ok {a : Array Value} (f : FR φ n t a) (ops : Array Oper) (j : Nat) : yielded ops a j = aYd n t ops j := by
  unfold yielded aYd
  cases ho : ops[j]? with
  | none => rfl
  | some o =>
    simp only [Option.bind_some]
    cases hd : o.dst with
    | none => rfl
    | some d =>
      simp only [Option.bind_some]
      by_cases hlt : d < n
      · rw [if_pos hlt]
        have h1 : a[d]? = some (a.getD d Go.undef) := by
          rw [Array.getD_eq_getD_getElem?, Array.getElem?_eq_getElem (by rw [f.size]; exact hlt)]; simp
        have h2 := f.at d hlt
        rw [h1]
        generalize a.getD d Go.undef = u at h2
        cases hg : t.get d with
        | none =>
          rw [hg] at h2
          simp only [Option.getD_none] at h2
          obtain ⟨l', rfl, _⟩ := VR.tuple_inv (l := []) h2
          rfl
        | some v =>
          rw [hg] at h2
          simp only [Option.getD_some] at h2
          cases h2 <;> rfl
      · rw [if_neg hlt]
        have h9 : a[d]? = none := Array.getElem?_eq_none (Nat.le_trans (Nat.le_of_eq f.size) (Nat.le_of_not_lt hlt))
        rw [h9]
def aWant (n : Nat) (t : T Value) (ops : Array Oper) (o : Oper) : Bool := match o.guard with
  | none => true
  | some (j, b) => (match aYd n t ops j with
    | some c => c == b
    | none => false)
theorem want_ok {a : Array Value} (f : FR φ n t a) (ops : Array Oper) (o : Oper) : Region.wanted o (yielded ops a) = aWant n t ops o := by
  unfold Region.wanted aWant
  cases o.guard with
  | none => rfl
  | some p =>
    obtain ⟨j, b⟩ := p
    dsimp only
    rw [yd_ok f]
    cases aYd n t ops j with
    | none => rfl
    | some c => cases c <;> cases b <;> rfl
def aPut (n : Nat) (t : T Value) (d : Option Tmp) (v : Value) : Option (T Value) := Option.rec (motive := fun _ => Option (T Value)) (some t)
  (fun d => Bool.rec (motive := fun _ => Option (T Value)) (some (t.set d (some v))) none (Nat.ble n d)) d
theorem aPut_eq (n : Nat) (t : T Value) (d : Option Tmp) (v : Value) : aPut n t d v = match d with
  | none => some t
  | some d => if d < n then some (t.set d (some v)) else none := by
  cases d with
  | none => rfl
  | some d =>
    show Bool.rec (motive := fun _ => Option (T Value)) _ _ (Nat.ble n d) = _
    cases hb : Nat.ble n d with
    | true =>
      have : ¬ d < n := Nat.not_lt.2 (Nat.le_of_ble_eq_true hb)
      simp [this]
    | false =>
      have : d < n := Nat.lt_of_not_le (fun hle => by rw [Nat.ble_eq_true_of_le hle] at hb; cases hb)
      simp [this]
theorem put_ok {a : Act} (f : FR φ n t a.tmps) {d : Option Tmp} {v v' : Value} {t' : T Value} (hs : aPut n t d v = some t') (hv : VR φ v v') : FR φ n t' (a.put d v').tmps ∧ (a.put d v').defers = a.defers := by
  rw [aPut_eq] at hs
  cases d with
  | none => cases hs; exact ⟨f, rfl⟩
  | some d =>
    dsimp only at hs
    split at hs
    · cases hs; exact ⟨f.set ‹_› hv, rfl⟩
    · cases hs

/-! A region whose order is given. -/
def aOps0 (P : Program) (call : Call1) (n : Nat) (ops : Array Oper) : List Nat → T Value → AH → Option (List (T Value × AH))
  | [], t, h => some [(t, h)]
  | i :: r, t, h => match ops[i]? with
    | none => none
    | some o => if aWant n t ops o then bindL (aStep P call n t h o.op) fun p => (match aPut n t o.dst p.1 with
        | some t' => aOps0 P call n ops r t' p.2
        | none => none)
      else (match aPut n t o.dst undef with
        | some t' => aOps0 P call n ops r t' h
        | none => none)
theorem ops_ok0 (hN : NoCount P) {call : Call1} (hc : CallsOk w0 P call) {ops : Array Oper} {q : Option Nat} {m : Nat} {Q : Exit → Act → World → Prop} : ∀ (r : List Nat) {t : T Value} {h : AH} {l : List (T Value × AH)} {φ : Phi} {a : Act} {w : World},
    aOps0 P call n ops r t h = some l → R w0 φ h w → FR φ n t a.tmps →
    (∀ t' h' φ' a' w', (t', h') ∈ l → Nx φ φ' h h' → R w0 φ' h' w' → FR φ' n t' a'.tmps → a'.defers = a.defers → Q .normal a' w') → wpOpsIn (FW q) m P ops Q r a w
  | [], t, h, l, φ, a, w, hs, hr, hf, hQ => by
    simp only [aOps0] at hs; cases hs
    exact hQ _ _ φ _ _ (List.mem_singleton.2 rfl) (.refl φ h) hr hf rfl
  | i :: r, t, h, l, φ, a, w, hs, hr, hf, hQ => by
    simp only [aOps0] at hs
    simp only [wpOpsIn]
    cases ho : ops[i]? with
    | none => rw [ho] at hs; cases hs
    | some o =>
      rw [ho] at hs
      dsimp only at hs ⊢
      rw [want_ok hf]
      split at hs
      · rename_i hw
        rw [if_pos hw]
        obtain ⟨l0, h0, hall⟩ := bindL_spec hs
        refine step_ok hN hc hr hf h0 ?_
        intro v h1 v' w1 φ1 hm nx1 r1 hv
        obtain ⟨k, hk, hsub⟩ := hall _ hm
        dsimp only at hk
        split at hk
        · rename_i t1 ht
          obtain ⟨f1, d1⟩ := put_ok (hf.mono nx1.le) ht hv
          refine ops_ok0 hN hc r hk r1 f1 (fun t' h' φ' a' w' hm' nx' r' f' d' => hQ t' h' φ' a' w' (hsub _ hm') (nx1.trans nx') r' f' (d'.trans d1))
        · cases hk
      · rename_i hw
        rw [if_neg hw]
        split at hs
        · rename_i t1 ht
          obtain ⟨f1, d1⟩ := put_ok hf ht .undef
          refine ⟨fun f _ => FW_fn q f, ops_ok0 hN hc r hs hr f1 (fun t' h' φ' a' w' hm' nx' r' f' d' => hQ t' h' φ' a' w' hm' nx' r' f' (d'.trans d1))⟩
        · cases hs
def opsStep (P : Program) (call : Call1) (n : Nat) (ops : Array Oper) (o : Oper) (ih : T Value → AH → Option (List (T Value × AH))) (t : T Value) (h : AH) : Option (List (T Value × AH)) :=
  Bool.rec (motive := fun _ => Option (List (T Value × AH)))
    (Option.rec (motive := fun _ => Option (List (T Value × AH))) none (fun t' => ih t' h) (aPut n t o.dst undef))
    (bindL (aStep P call n t h o.op) fun p => Option.rec (motive := fun _ => Option (List (T Value × AH))) none (fun t' => ih t' p.2) (aPut n t o.dst p.1)) (aWant n t ops o)
def aOps (P : Program) (call : Call1) (n : Nat) (ops : Array Oper) (l : List Oper) : T Value → AH → Option (List (T Value × AH)) :=
  List.rec (motive := fun _ => T Value → AH → Option (List (T Value × AH))) (fun t h => some [(t, h)]) (fun o _ ih => opsStep P call n ops o ih) l
theorem aOps_eq {call : Call1} {ops : Array Oper} : ∀ {l : List Oper} {r : List Nat}, r.map (fun i => ops[i]?) = l.map some → ∀ t h, aOps P call n ops l t h = aOps0 P call n ops r t h
  | [], [], _, t, h => rfl
  | [], _ :: _, hm, _, _ => by simp at hm
  | _ :: _, [], hm, _, _ => by simp at hm
  | o :: l, i :: r, hm, t, h => by
    simp only [List.map_cons, List.cons.injEq] at hm
    have ih : ∀ t h, aOps P call n ops l t h = aOps0 P call n ops r t h := aOps_eq hm.2
    show opsStep P call n ops o (aOps P call n ops l) t h = _
    simp only [aOps0, hm.1]
    unfold opsStep
    cases hw : aWant n t ops o with
    | true =>
      simp only [if_true]
      congr 1
      funext p
      cases aPut n t o.dst p.1 with
      | none => rfl
      | some t' => exact ih t' p.2
    | false =>
      simp only [Bool.false_eq_true, if_false]
      cases aPut n t o.dst undef with
      | none => rfl
      | some t' => exact ih t' h
theorem range_all (ops : Array Oper) : (List.range ops.size).map (fun i => ops[i]?) = ops.toList.map some := by
  apply List.ext_getElem?
  intro i
  simp only [List.getElem?_map, Array.getElem?_toList]
  by_cases hi : i < ops.size
  · simp [hi]
  · simp [hi]
theorem ops_ok (hN : NoCount P) {call : Call1} (hc : CallsOk w0 P call) {ops : Array Oper} {q : Option Nat} {m : Nat} {Q : Exit → Act → World → Prop} {t : T Value} {h : AH} {l : List (T Value × AH)} {φ : Phi} {a : Act} {w : World}
    (hs : aOps P call n ops ops.toList t h = some l) (r : R w0 φ h w) (f : FR φ n t a.tmps)
    (hQ : ∀ t' h' φ' a' w', (t', h') ∈ l → Nx φ φ' h h' → R w0 φ' h' w' → FR φ' n t' a'.tmps → a'.defers = a.defers → Q .normal a' w') : wpOpsIn (FW q) m P ops Q (List.range ops.size) a w :=
  ops_ok0 hN hc _ (by rw [← aOps_eq (range_all ops)]; exact hs) r f hQ
end
end Go.X
