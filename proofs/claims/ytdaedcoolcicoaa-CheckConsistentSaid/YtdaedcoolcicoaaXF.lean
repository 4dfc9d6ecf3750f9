/- The closed evaluator, part F: calls; one operation in full. -/
import Derived.Test.YtdaedcoolcicoaaXE
namespace Go.X
noncomputable section
open Go Go.RowKit
variable {w0 w w' : World} {φ φ' : Phi} {h h' : AH} {P : Program} {n : Nat} {t : T Value}

def joinL {β : Type} (x y : Option (List β)) : Option (List β) := match x, y with
  | some m, some k => some (m ++ k)
  | _, _ => none
def bindL.go {α β : Type} (f : α → Option (List β)) (l : List α) : Option (List β) := List.rec (motive := fun _ => Option (List β)) (some [])
  (fun a l ih => List.rec (motive := fun _ => Option (List β)) (f a) (fun _ _ _ => joinL (f a) ih) l) l
def bindL {α β : Type} (x : Option (List α)) (f : α → Option (List β)) : Option (List β) := Option.rec (motive := fun _ => Option (List β)) none (fun l => bindL.go f l) x
theorem bindL_go {α β : Type} {f : α → Option (List β)} : ∀ {l : List α} {m : List β}, bindL.go f l = some m → ∀ a, a ∈ l → ∃ k, f a = some k ∧ ∀ b, b ∈ k → b ∈ m
  | [], m, _, a, ha => by simp at ha
  | [x], m, h, a, ha => by
    simp at ha; subst ha
    exact ⟨m, h, fun b hb => hb⟩
  | x :: y :: l, m, h, a, ha => by
    have h : joinL (f x) (bindL.go f (y :: l)) = some m := h
    unfold joinL at h
    split at h
    · rename_i m1 k1 h1 h2
      cases h
      rcases List.mem_cons.1 ha with e | e
      · subst e; exact ⟨m1, h1, fun b hb => List.mem_append_left _ hb⟩
      · obtain ⟨k, h3, h4⟩ := bindL_go h2 a e
        exact ⟨k, h3, fun b hb => List.mem_append_right _ (h4 b hb)⟩
    · cases h
theorem bindL_spec {α β : Type} {x : Option (List α)} {f : α → Option (List β)} {m : List β} (h : bindL x f = some m) : ∃ l, x = some l ∧ ∀ a, a ∈ l → ∃ k, f a = some k ∧ ∀ b, b ∈ k → b ∈ m := by
  cases x with
  | none => cases h
  | some l => exact ⟨l, rfl, bindL_go h⟩

/-! Calls. -/
def aCallF (P : Program) (f : FuncId) (args : List Value) (h : AH) : Outs := match P.funcs[f]? with
  | some fn => (match fn.body with
    | some _ => some [(.enter f args, h)]
    | none => none)
  | none => none
/-- No function with a body is the one that counts goroutines. -/
def NoCount (P : Program) : Prop := ∀ (f : FuncId) (fn : Func), P.funcs[f]? = some fn → fn.body.isSome = true → (fn.name == "runtime.NumGoroutine") = false
theorem run_callF (hN : NoCount P) {f : FuncId} {args args' : List Value} {l : List (AN × AH)} (hs : aCallF P f args h = some l) (w : World) : l = [(.enter f args, h)] ∧ (callFunc f ⟨args'⟩).run P w = .ok (.enter f ⟨args'⟩) w := by
  unfold aCallF at hs
  split at hs
  · rename_i fn hf
    split at hs
    · rename_i c hb
      cases hs
      refine ⟨rfl, ?_⟩
      have := hN f fn hf (by rw [hb]; rfl)
      have this : fn.name ≠ "runtime.NumGoroutine" := by simpa using this
      simp [callFunc, hf, this, hb]
    · cases hs
  · cases hs
def setAll : T Value → List Tmp → List Value → T Value
  | t, p :: ps, v :: vs => setAll (t.set p (some v)) ps vs
  | t, _, _ => t
theorem FR.set {a : Array Value} (f : FR φ n t a) {d : Nat} (hd : d < n) {v v' : Value} (hv : VR φ v v') : FR φ n (t.set d (some v)) (a.setIfInBounds d v') := by
  refine ⟨by simp [f.size], f.lt, fun k u hk => ?_⟩
  rw [T.get_set (Nat.lt_of_lt_of_le hd f.lt)]
  rw [Array.getElem?_setIfInBounds] at hk
  by_cases e : d = k
  · subst e
    rw [if_pos rfl, if_pos (by rw [f.size]; exact hd)] at hk
    cases hk
    rw [if_pos rfl]; exact hv
  · rw [if_neg e] at hk
    rw [if_neg (fun x => e x.symm)]
    exact f.get k u hk
theorem FR.setAll : ∀ {ps : List Tmp} {vs vs' : List Value} {t : T Value} {a : Array Value}, FR φ n t a → ps.all (fun p => decide (p < n)) = true → LR φ vs vs' →
    FR φ n (setAll t ps vs) ((ps.zip vs').foldl (fun tmps p => tmps.setIfInBounds p.1 p.2) a)
  | [], vs, vs', t, a, f, _, _ => by simpa [X.setAll] using f
  | p :: ps, [], vs', t, a, f, _, hv => by cases hv; simpa [X.setAll] using f
  | p :: ps, v :: vs, vs', t, a, f, hp, hv => by
    cases hv with
    | cons h1 h2 =>
      simp only [List.all_cons, Bool.and_eq_true, decide_eq_true_eq] at hp
      simp only [X.setAll, List.zip_cons_cons, List.foldl_cons]
      exact FR.setAll (f.set hp.1 h1) hp.2 h2
def aInvoke (P : Program) (fn : Fn) (cap args : List Value) (h : AH) : Outs := match fn with
  | .func f => aCallF P f (args ++ cap) h
  | .yield l => (match h.m.get l with
    | some (.loop _ _ ts sz ps asg body) => if args.length = ps.length ∧ ps.all (fun p => decide (p < sz)) = true then some [(.round l (setAll ts ps args) sz asg body, h)] else none
    | _ => none)
  | _ => none
theorem run_invoke (hN : NoCount P) (r : R w0 φ h w) {fn fn' : Fn} {cap cap' args args' : List Value} {l : List (AN × AH)} (hs : aInvoke P fn cap args h = some l) (hf : FnR φ fn fn') (hc : LR φ cap cap') (ha : LR φ args args') :
    ∃ an nx, l = [(an, h)] ∧ (invoke (.fn fn' ⟨cap'⟩) ⟨args'⟩).run P w = .ok nx w ∧ NR φ an nx := by
  unfold aInvoke at hs
  split at hs
  · cases hf
    obtain ⟨h1, h2⟩ := run_callF (args' := args' ++ cap') hN hs w
    refine ⟨_, _, h1, ?_, .enter (ha.append hc)⟩
    simp only [invoke]
    have : (⟨args'⟩ ++ ⟨cap'⟩ : Array Value) = ⟨args' ++ cap'⟩ := by apply Array.ext'; simp
    rw [this]; exact h2
  · rename_i b
    cases hf with
    | same hf => exact (hf _ rfl).elim
    | yield i hi =>
      split at hs
      · rename_i st pend ts sz ps asg body ho
        split at hs
        · rename_i hl
          cases hs
          obtain ⟨fn0, arr, df, hw, hfr⟩ := r.dom _ _ _ hi ho
          have hsz : (⟨args'⟩ : Array Value).size = (⟨ps⟩ : Array Tmp).size := by simp [← ha.length, hl.1]
          have := run_yield (P := P) (args := ⟨args'⟩) hw hsz
          refine ⟨_, _, rfl, by simp only [invoke]; exact this, .round hi ?_⟩
          have := FR.setAll hfr hl.2 ha
          have e : (((⟨ps⟩ : Array Tmp).zip ⟨args'⟩).foldl (fun tmps (x : Tmp × Value) => tmps.setIfInBounds x.1 x.2) arr) = ((ps.zip args').foldl (fun tmps p => tmps.setIfInBounds p.1 p.2) arr) := by
            rw [← Array.foldl_toList, Array.toList_zip]
          rw [← e] at this
          exact this
        · cases hs
      · cases hs
  · cases hs
def aMethod (P : Program) (ty : TypeId) (v : Value) (name : String) : Option (FuncId × Value) := match P.info? ty with
  | some i => (match i.methods.find? (·.name == name) with
    | some m => if m.path.isEmpty then (match m.func, P.underlying ty with
        | some (f, true), some (.pointer _) => some (f, v)
        | some (_, false), some (.pointer _) => none
        | some (f, false), some _ => some (f, v)
        | _, _ => none) else none
    | none => none)
  | none => none
theorem run_method {ty : TypeId} {v v' : Value} {name : String} {f : FuncId} {u : Value} (hs : aMethod P ty v name = some (f, u)) (k : Nat) (w : World) : u = v ∧ (method (k + 1) ty v' name).run P w = .ok (f, v') w := by
  unfold aMethod at hs
  split at hs
  · rename_i i hi
    split at hs
    · rename_i m hm
      split at hs
      · rename_i hp
        have hpath : m.path.toList = [] := by
          have : m.path.size = 0 := by rw [Array.isEmpty_iff_size_eq_zero] at hp; exact hp
          exact List.eq_nil_of_length_eq_zero (by rw [Array.length_toList]; exact this)
        split at hs
        · rename_i f' el hfu hu
          cases hs
          refine ⟨rfl, ?_⟩
          simp only [method, Sem.run_bind, rI hi, Result.andThen_ok, hm, hpath, follow, Sem.run_pure, hfu, receiverAt, run_underlying hu, Place.get]
        · cases hs
        · rename_i f' d hd hfu hu
          cases hs
          refine ⟨rfl, ?_⟩
          cases d <;> first | exact (hd _ rfl).elim | simp only [method, Sem.run_bind, rI hi, Result.andThen_ok, hm, hpath, follow, Sem.run_pure, hfu, receiverAt, run_underlying hu, Place.get]
        · cases hs
      · cases hs
    · cases hs
  · cases hs
def aCallO (P : Program) (n : Nat) (t : T Value) (h : AH) : Op → Outs
  | .call ⟨.value f, ⟨args⟩, _⟩ => match aO n t f, aOs n t args with
    | some (.func fn ⟨first⟩ ⟨cap⟩), some vs => aInvoke P fn cap (first ++ vs) h
    | _, _ => none
  | .call ⟨.invoke recv name, ⟨args⟩, _⟩ => match aO n t recv, aOs n t args with
    | some (.iface ty v), some vs => (match aMethod P ty v name with
      | some (f, _) => aCallF P f (v :: vs) h
      | none => none)
    | _, _ => none
  | _ => none
theorem simC (hN : NoCount P) (r : R w0 φ h w) {a : Act} (f : FR φ n t a.tmps) {o : Oper} {l : List (AN × AH)} (hs : aCallO P n t h o.op = some l) : Sim w0 P φ h w (execOp a.eval o) l := by
  cases hop : o.op with
  | call c =>
    rw [hop] at hs
    obtain ⟨callee, args, Ts⟩ := c
    obtain ⟨args⟩ := args
    cases callee with
    | value fv =>
      simp only [aCallO] at hs
      split at hs
      · rename_i fn first cap vs hfv hvs
        have h1 := aO_ok f hfv
        have h2 := aOs_ok f hvs
        generalize hev : a.eval fv = u at h1
        cases h1 with
        | @func _ fn' _ _ first' cap' hfn ha hb h3 h4 =>
          obtain ⟨an, nx, rfl, hrun, hnr⟩ := run_invoke hN r hs hfn (LR.of hb h4) ((LR.of ha h3).append h2)
          refine ⟨an, h, List.mem_singleton.2 rfl, nx, w, φ, ?_, .refl φ h, r, hnr⟩
          have e1 : (⟨first'⟩ ++ ⟨args.map a.eval⟩ : Array Value) = ⟨first' ++ args.map a.eval⟩ := by apply Array.ext'; simp
          simp only [execOp, hop, resolve, hev, Deferred.ofValue, Sem.run_bind, Sem.run_pure, Result.andThen_ok, amap, e1]
          exact hrun
      · cases hs
    | invoke recv name =>
      simp only [aCallO] at hs
      split at hs
      · rename_i ty v vs hrv hvs
        have h1 := aO_ok f hrv
        have h2 := aOs_ok f hvs
        generalize hev : a.eval recv = u at h1
        cases h1 with
        | @iface _ _ v' h1 =>
          split at hs
          · rename_i f' u hm
            obtain ⟨rfl, hmr⟩ := run_method (v' := v') hm (P.types.size + Made.depth - 1) w
            obtain ⟨h5, h6⟩ := run_callF (args' := v' :: args.map a.eval) hN hs w
            subst h5
            refine ⟨_, h, List.mem_singleton.2 rfl, .enter f' ⟨v' :: args.map a.eval⟩, w, φ, ?_, .refl φ h, r, .enter (.cons h1 h2)⟩
            have e0 : P.types.size + Made.depth - 1 + 1 = P.types.size + Made.depth := by
              have : 0 < Made.depth := by decide
              omega
            rw [e0] at hmr
            have e1 : (#[Value.iface ty v'] ++ ⟨args.map a.eval⟩ : Array Value) = ⟨Value.iface ty v' :: args.map a.eval⟩ := by apply Array.ext'; simp
            have e2 : (⟨Value.iface ty v' :: args.map a.eval⟩ : Array Value).extract 1 (⟨Value.iface ty v' :: args.map a.eval⟩ : Array Value).size = ⟨args.map a.eval⟩ := by
              apply Array.ext'; simp
              exact List.take_of_length_le (by simp)
            have e3 : (#[v'] ++ ⟨args.map a.eval⟩ : Array Value) = ⟨v' :: args.map a.eval⟩ := by apply Array.ext'; simp
            simp only [execOp, hop, resolve, hev, Sem.run_bind, Sem.run_pure, Result.andThen_ok, amap, e1, invoke]
            have e4 : (⟨Value.iface ty v' :: args.map a.eval⟩ : Array Value)[0]? = some (Value.iface ty v') := by simp
            simp only [e4, e2, callMethod, Sem.run_bind, program]
            show ((Sem.run P (Sem.program Sem.pure) w).andThen _) = _
            simp only [Sem.run, Result.andThen_ok, hmr, e3]
            exact h6
          · cases hs
      · cases hs
    | builtin b => simp [aCallO] at hs
  | _ => rw [hop] at hs; simp [aCallO] at hs

/-- An operation, up to the call that it makes. -/
def kOp : Op → Nat
  | .alloc _ | .box _ _ | .buildSlice _ _ _ | .makeSlice _ _ _ | .makeMap _ _ => 0
  | .store _ _ _ | .mapUpdate _ _ _ _ | .insert _ _ _ _ | .mapEntry _ _ _ | .entryStore _ _ _ _ | .range _ _ | .next _ _ => 2
  | .call ⟨.value _, _, _⟩ | .call ⟨.invoke _ _, _, _⟩ => 3
  | .call _ => 4
  | _ => 1
def aOp (P : Program) (n : Nat) (t : T Value) (h : AH) (o : Op) : Outs := match kOp o with
  | 0 => (match aAl P n t o with
    | some p => aNew (some p) h
    | none => none)
  | 1 => (match aVal P n t h o with
    | some v => some [(.val v, h)]
    | none => none)
  | 2 => aAct P n t h o
  | 3 => aCallO P n t h o
  | _ => (match aVal P n t h o with
    | some v => some [(.val v, h)]
    | none => aAct P n t h o)
theorem R.newAl (r : R w0 φ h w) {al : Al} {mk : Mk} {x : Obj} {b : Nat} (hs : h.newAl al = some (b, h')) (hk : al.ok mk = true) (ha : AlR φ al x) :
    ∃ φ', Nx φ φ' h h' ∧ φ' b = some (al.im w.heap.size) ∧ R w0 φ' h' (w.alloc x) := by
  unfold AH.newAl at hs
  split at hs
  · rename_i hn
    cases hs
    have hc : (al.im w.heap.size).c = w.heap.size := by cases al <;> rfl
    obtain ⟨φ', le, h1, h2, h3⟩ := r.new (i := al.im w.heap.size) (o := al.obj) (x := x) hc hn (fun φ' w' le hw => AlR.or hk ha le (by rw [← hc]; exact hw))
    exact ⟨φ', .new le h3 hn, h1, h2⟩
  · cases hs
theorem sim_op (hN : NoCount P) (r : R w0 φ h w) {a : Act} (f : FR φ n t a.tmps) {o : Oper} {l : List (AN × AH)} (hs : aOp P n t h o.op = some l) : Sim w0 P φ h w (execOp a.eval o) l := by
  have hal : ∀ {l : List (AN × AH)}, (match aAl P n t o.op with | some p => aNew (some p) h | none => none) = some l → Sim w0 P φ h w (execOp a.eval o) l := by
    intro l hs
    split at hs
    · rename_i p hp
      obtain ⟨al, mk⟩ := p
      obtain ⟨hk, x, hx, hrun⟩ := al_run f hp
      unfold aNew at hs
      dsimp only at hs
      split at hs
      · rename_i b h1 hn
        cases hs
        obtain ⟨φ', nx, hb, r'⟩ := r.newAl hn hk hx
        exact ⟨_, _, List.mem_singleton.2 rfl, _, _, φ', hrun w, nx, r', .val (Mk.rel hk hb)⟩
      · cases hs
    · cases hs
  have hvl : ∀ {v : Value}, aVal P n t h o.op = some v → Sim w0 P φ h w (execOp a.eval o) [(.val v, h)] := by
    intro v hv
    obtain ⟨nx, w', φ', h1, h2, h3, h4⟩ := simN r f hv
    exact ⟨_, _, List.mem_singleton.2 rfl, nx, w', φ', h1, h2, h3, h4⟩
  unfold aOp at hs
  split at hs
  · exact hal hs
  · split at hs
    · rename_i v hv
      cases hs; exact hvl hv
    · cases hs
  · exact simA r f hs
  · exact simC hN r f hs
  · split at hs
    · rename_i v hv
      cases hs; exact hvl hv
    · exact simA r f hs
theorem aOp_defer {c : Call} {l : List (AN × AH)} (hs : aOp P n t h (.defer c) = some l) : False := by
  simp [aOp, kOp, aVal_eq, aVal0] at hs
end
end Go.X
