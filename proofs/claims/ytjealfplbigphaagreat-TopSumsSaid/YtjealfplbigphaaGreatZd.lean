/- Parts of the closed evaluator. -/
import Derived.Test.YtjealfplbigphaaGreatZc
import Derived.Laws.Externs
namespace Go.X
noncomputable section
open Go Go.RowKit
variable {w0 w w' : World} {φ φ' : Phi} {h h' : AH} {P : Program} {n : Nat} {t : T Value}
def joinL {β : Type} (x y : Option (List β)) : Option (List β) := match x, y with
 | some m, some k => some (m ++ k)
 | _, _ => none
def bindL.go {α β : Type} (f : α -> Option (List β)) (l : List α) : Option (List β) := List.rec (motive := fun _ => Option (List β)) (some [])
 (fun a l ih => List.rec (motive := fun _ => Option (List β)) (f a) (fun _ _ _ => joinL (f a) ih) l) l
def bindL {α β : Type} (x : Option (List α)) (f : α -> Option (List β)) : Option (List β) := Option.rec (motive := fun _ => Option (List β)) none (fun l => bindL.go f l) x
theorem yg0 {α β : Type} {f : α -> Option (List β)} : ∀ {l : List α} {m : List β}, bindL.go f l = some m -> ∀ a, a ∈ l -> ∃ k, f a = some k /\ ∀ b, b ∈ k -> b ∈ m
 | [], m, _, a, ha => by simp at ha
 | [x], m, h, a, ha => by
  simp at ha; subst ha
  exact ⟨m, h, fun b hb => hb⟩
 | x :: y :: l, m, h, a, ha => by
  have h : joinL (f x) (bindL.go f (y :: l)) = some m := h
  unfold joinL at h
  split at h
  . rename_i m1 k1 h1 h2
    cases h
    rcases List.mem_cons.1 ha with e | e
    . subst e; exact ⟨m1, h1, fun b hb => List.mem_append_left _ hb⟩
    . obtain ⟨k, h3, h4⟩ := yg0 h2 a e
      exact ⟨k, h3, fun b hb => List.mem_append_right _ (h4 b hb)⟩
  . cases h
theorem U1 {α β : Type} {x : Option (List α)} {f : α -> Option (List β)} {m : List β} (h : bindL x f = some m) : ∃ l, x = some l /\ ∀ a, a ∈ l -> ∃ k, f a = some k /\ ∀ b, b ∈ k -> b ∈ m := by
 cases x with
 | none => cases h
 | some l => exact ⟨l, rfl, yg0 h⟩
def aCallF (P : Program) (f : FuncId) (args : List Value) (h : AH) : Outs := match P.funcs[f]? with
 | some fn => (match fn.body with
  | some _ => some [(.enter f args, h)]
  | none => none)
 | none => none
def NoCount (P : Program) : Prop := ∀ (f : FuncId) (fn : Func), P.funcs[f]? = some fn -> fn.body.isSome = true -> (fn.name == "runtime.NumGoroutine") = false
theorem zq8 (hN : NoCount P) {f : FuncId} {args args' : List Value} {l : List (AN × AH)} (hs : aCallF P f args h = some l) (w : World) : l = [(.enter f args, h)] /\ (callFunc f ⟨args'⟩).run P w = .ok (.enter f ⟨args'⟩) w := by
 unfold aCallF at hs
 split at hs
 . rename_i fn hf
   split at hs
   . rename_i c hb
     cases hs
     refine ⟨rfl, ?_⟩
     have := hN f fn hf (by rw [hb]; rfl)
     have this : fn.name ≠ "runtime.NumGoroutine" := by simpa using this
     simp [callFunc, hf, this, hb]
   . cases hs
 . cases hs
def aExt (P : Program) (f : FuncId) (args : List Value) (h : AH) : Outs := match P.funcs[f]? with
 | some fn => (match fn.body with
  | some _ => none
  | none => (match args with
   | [.int .u64 (.ofNat x), .int .u64 (.ofNat y), .int .u64 (.ofNat c)] => (match Nat.ble c 1 && fn.origin == "" with
    | true => (match fn.name == "math/bits.Add64" with
     | true => some [(.val (.tuple #[.int .u64 (.ofNat ((x + y + c) % 18446744073709551616)), .int .u64 (.ofNat ((x + y + c) / 18446744073709551616))]), h)]
     | false => (match fn.name == "math/bits.Sub64" with
      | true => some [(.val (.tuple #[.int .u64 (.ofNat ((x + 18446744073709551616 - y - c) % 18446744073709551616)), .int .u64 (.ofNat (if x < y + c then 1 else 0))]), h)]
      | false => none))
    | false => none)
   | _ => none))
 | none => none
def sub64E : Array Value -> Sem Value := fun args => do
 let (x, y, b) <- Extern.MathBitsCarry.three "Sub64" args
 pure (Extern.MathBitsCarry.pair ((x + Extern.MathBitsCarry.m64 - y - b) % Extern.MathBitsCarry.m64) (if x < y + b then 1 else 0))
theorem xy2 (x y b : Nat) (hb : b ≤ 1) (w : World) : (sub64E #[.int .u64 (.ofNat x), .int .u64 (.ofNat y), .int .u64 (.ofNat b)]).run P w =
  .ok (.tuple #[.int .u64 (.ofNat ((x + 18446744073709551616 - y - b) % 18446744073709551616)), .int .u64 (.ofNat (if x < y + b then 1 else 0))]) w := by
 have : b = 0 ∨ b = 1 := by omega
 rcases this with rfl | rfl <;> rfl
theorem xy5 (x y b : Nat) (hb : b ≤ 1) (w : World) : (add64Entry #[.int .u64 (.ofNat x), .int .u64 (.ofNat y), .int .u64 (.ofNat b)]).run P w =
  .ok (.tuple #[.int .u64 (.ofNat ((x + y + b) % 18446744073709551616)), .int .u64 (.ofNat ((x + y + b) / 18446744073709551616))]) w := by
 have : b = 0 ∨ b = 1 := by omega
 rcases this with rfl | rfl <;> rfl
theorem qv2 {fn : Func} {nm : String} (hn : fn.name = nm) (ho : fn.origin = "") (h1 : (Extern.allNextRows.lookup nm).isNone = true) (h2 : (Extern.allNextRows.lookup "").isNone = true) : Extern.findNext fn = none := by
 unfold Extern.findNext
 rw [Option.isNone_iff_eq_none] at h1 h2
 simp only [hn, ho, h1, h2]
 rfl
theorem zx4 {fn : Func} {nm : String} {e : Array Value -> Sem Value} (hn : fn.name = nm) (h1 : (Extern.allGenericRows.lookup nm).isNone = true) (h2 : (Extern.allTypedRows.lookup nm).isNone = true) (h3 : Extern.allRows.lookup nm = some e) : Extern.find fn = some e := by
 unfold Extern.find
 rw [Option.isNone_iff_eq_none] at h1 h2
 simp only [hn, h1, h2, h3]
 rfl
theorem Qq1 {f : FuncId} {args args' : List Value} {l : List (AN × AH)} (hs : aExt P f args h = some l) (ha : LR φ args args') (w : World) : ∃ v v', l = [(.val v, h)] /\ (callFunc f ⟨args'⟩).run P w = .ok (.value v') w /\ VR φ v v' := by
 unfold aExt at hs
 split at hs
 . rename_i fn hf
   split at hs
   . cases hs
   . rename_i hb
     split at hs
     . rename_i x y c
       have e : args' = [.int .u64 (.ofNat x), .int .u64 (.ofNat y), .int .u64 (.ofNat c)] := by
         cases ha with
         | cons a1 t1 => cases t1 with
           | cons a2 t2 => cases t2 with
             | cons a3 t3 => cases t3; cases a1; cases a2; cases a3; rfl
       subst e
       split at hs
       . rename_i hc
         rw [Bool.and_eq_true] at hc
         have hc1 := Nat.le_of_ble_eq_true hc.1
         have ho : fn.origin = "" := eq_of_beq hc.2
         split at hs
         . rename_i hn
           have hn : fn.name = "math/bits.Add64" := eq_of_beq hn
           cases hs
           refine ⟨_, _, rfl, ?_, Z9 φ rfl⟩
           rw [run_callFunc_extern hf (by rw [hn]; decide +kernel) (by rw [hb]; rfl) (qv2 hn ho (by kernel_rfl) (by kernel_rfl)) (zx4 (e := add64Entry) hn (by kernel_rfl) (by kernel_rfl) (by kernel_rfl))]
           show ((add64Entry #[.int .u64 (.ofNat x), .int .u64 (.ofNat y), .int .u64 (.ofNat c)]).run P w).andThen _ = _
           rw [xy5 x y c hc1]
           rfl
         . split at hs
           . rename_i hn
             have hn : fn.name = "math/bits.Sub64" := eq_of_beq hn
             cases hs
             refine ⟨_, _, rfl, ?_, Z9 φ rfl⟩
             rw [run_callFunc_extern hf (by rw [hn]; decide +kernel) (by rw [hb]; rfl) (qv2 hn ho (by kernel_rfl) (by kernel_rfl)) (zx4 (e := sub64E) hn (by kernel_rfl) (by kernel_rfl) (by kernel_rfl))]
             show ((sub64E #[.int .u64 (.ofNat x), .int .u64 (.ofNat y), .int .u64 (.ofNat c)]).run P w).andThen _ = _
             rw [xy2 x y c hc1]
             rfl
           . cases hs
       . cases hs
     . cases hs
 . cases hs
def aSame (P : Program) (f : FuncId) (args : List Value) (h : AH) : Outs := match P.funcs[f]? with
 | some fn => (match fn.body with
  | some _ => none
  | none => (match args with
   | [x] => (match fn.origin == "" && fn.name == "internal/abi.NoEscape" with
    | true => some [(.val x, h)]
    | false => (match x with
     | .float .f64 b => (match fn.origin == "" && fn.name == "math.Float64bits" with
      | true => some [(.val (.int .u64 (b : Nat)), h)]
      | false => none)
     | _ => none))
   | _ => none))
 | none => none
theorem jg0 {f : FuncId} {args args' : List Value} {l : List (AN × AH)} (hs : aSame P f args h = some l) (ha : LR φ args args') (w : World) : ∃ v v', l = [(.val v, h)] /\ (callFunc f ⟨args'⟩).run P w = .ok (.value v') w /\ VR φ v v' := by
 unfold aSame at hs
 split at hs
 . rename_i fn hf
   split at hs
   . cases hs
   . rename_i hb
     split at hs
     . rename_i x
       obtain ⟨x', rfl, hx⟩ := ha.one_inv
       split at hs
       . rename_i hc
         rw [Bool.and_eq_true] at hc
         have ho : fn.origin = "" := eq_of_beq hc.1
         have hn : fn.name = "internal/abi.NoEscape" := eq_of_beq hc.2
         cases hs
         refine ⟨_, _, rfl, ?_, hx⟩
         rw [run_callFunc_extern hf (by rw [hn]; decide +kernel) (by rw [hb]; rfl) (qv2 hn ho (by kernel_rfl) (by kernel_rfl)) (zx4 (e := Extern.AbiNoEscape.same) hn (by kernel_rfl) (by kernel_rfl) (by kernel_rfl))]
         show ((Extern.AbiNoEscape.same #[x']).run P w).andThen _ = _
         rw [Lib.run_noEscape w x']
         rfl
       . split at hs
         . rename_i b
           split at hs
           . rename_i hc
             rw [Bool.and_eq_true] at hc
             have ho : fn.origin = "" := eq_of_beq hc.1
             have hn : fn.name = "math.Float64bits" := eq_of_beq hc.2
             cases hs
             have e := U4 (v := .float .f64 b) rfl hx
             subst e
             refine ⟨_, _, rfl, ?_, Z9 φ rfl⟩
             rw [run_callFunc_extern hf (by rw [hn]; decide +kernel) (by rw [hb]; rfl) (qv2 hn ho (by kernel_rfl) (by kernel_rfl)) (zx4 (e := Extern.MathFloatBits.float64bits) hn (by kernel_rfl) (by kernel_rfl) (by kernel_rfl))]
             rfl
           . cases hs
         . cases hs
     . cases hs
 . cases hs
def aCallX (P : Program) (f : FuncId) (args : List Value) (h : AH) : Outs := match aCallF P f args h with
 | some l => some l
 | none => (match aExt P f args h with
  | some l => some l
  | none => aSame P f args h)
def setAll : T Value -> List Tmp -> List Value -> T Value
 | t, p :: ps, v :: vs => setAll (t.set p (some v)) ps vs
 | t, _, _ => t
theorem FR.set {a : Array Value} (f : FR φ n t a) {d : Nat} (hd : d < n) {v v' : Value} (hv : VR φ v v') : FR φ n (t.set d (some v)) (a.setIfInBounds d v') := by
 refine ⟨by simp [f.size], f.lt, fun k u hk => ?_⟩
 rw [T.get_set]
 rw [Array.getElem?_setIfInBounds] at hk
 by_cases e : d = k
 . subst e
   rw [if_pos rfl, if_pos (by rw [f.size]; exact hd)] at hk
   cases hk
   rw [if_pos rfl]; exact hv
 . rw [if_neg e] at hk
   rw [if_neg (fun x => e x.symm)]
   exact f.get k u hk
theorem FR.setAll : ∀ {ps : List Tmp} {vs vs' : List Value} {t : T Value} {a : Array Value}, FR φ n t a -> ps.all (fun p => decide (p < n)) = true -> LR φ vs vs' ->
  FR φ n (setAll t ps vs) ((ps.zip vs').foldl (fun tmps p => tmps.setIfInBounds p.1 p.2) a)
 | [], vs, vs', t, a, f, _, _ => by simpa [X.setAll] using f
 | p :: ps, [], vs', t, a, f, _, hv => by cases hv; simpa [X.setAll] using f
 | p :: ps, v :: vs, vs', t, a, f, hp, hv => by
  cases hv with
  | cons h1 h2 =>
   simp only [List.all_cons, Bool.and_eq_true, decide_eq_true_eq] at hp
   simp only [X.setAll, List.zip_cons_cons, List.foldl_cons]
   exact FR.setAll (f.set hp.1 h1) hp.2 h2
def aInvoke (P : Program) (fn : Fn) (cap args : List Value) (h : AH) : Outs := match fn with
 | .func f => aCallX P f (args ++ cap) h
 | .yield l => (match h.m.get l with
  | some (.loop _ _ ts sz ps asg body) => if args.length = ps.length /\ ps.all (fun p => decide (p < sz)) = true then some [(.round l (setAll ts ps args) sz asg body, h)] else none
  | _ => none)
 | _ => none
theorem xy4 (hN : NoCount P) (r : R w0 φ h w) {fn fn' : Fn} {cap cap' args args' : List Value} {l : List (AN × AH)} (hs : aInvoke P fn cap args h = some l) (hf : FnR φ fn fn') (hc : LR φ cap cap') (ha : LR φ args args') :
   ∃ an nx, l = [(an, h)] /\ (invoke (.fn fn' ⟨cap'⟩) ⟨args'⟩).run P w = .ok nx w /\ NR φ an nx := by
 unfold aInvoke at hs
 split at hs
 . rename_i k
   cases hf
   have hinv : (invoke (.fn (.func k) ⟨cap'⟩) ⟨args'⟩).run P w = (callFunc k ⟨args' ++ cap'⟩).run P w := by
     simp only [invoke]
     have : (⟨args'⟩ ++ ⟨cap'⟩ : Array Value) = ⟨args' ++ cap'⟩ := by apply Array.ext'; simp
     rw [this]
   unfold aCallX at hs
   split at hs
   . rename_i l' hl'
     cases hs
     obtain ⟨h1, h2⟩ := zq8 (args' := args' ++ cap') hN hl' w
     exact ⟨_, _, h1, by rw [hinv]; exact h2, .enter (ha.append hc)⟩
   . split at hs
     . rename_i l' hl'
       cases hs
       obtain ⟨v, v', h1, h2, h3⟩ := Qq1 hl' (ha.append hc) w
       exact ⟨_, _, h1, by rw [hinv]; exact h2, .val h3⟩
     . obtain ⟨v, v', h1, h2, h3⟩ := jg0 hs (ha.append hc) w
       exact ⟨_, _, h1, by rw [hinv]; exact h2, .val h3⟩
 . rename_i b
   cases hf with
   | same hf => exact (hf _ rfl).elim
   | yield i hi =>
     split at hs
     . rename_i st pend ts sz ps asg body ho
       split at hs
       . rename_i hl
         cases hs
         obtain ⟨fn0, arr, df, hw, hfr⟩ := r.dom _ _ _ hi ho
         have hsz : (⟨args'⟩ : Array Value).size = (⟨ps⟩ : Array Tmp).size := by simp [<- ha.length, hl.1]
         have := run_yield (P := P) (args := ⟨args'⟩) hw hsz
         refine ⟨_, _, rfl, by simp only [invoke]; exact this, .round hi ?_⟩
         have := FR.setAll hfr hl.2 ha
         have e : (((⟨ps⟩ : Array Tmp).zip ⟨args'⟩).foldl (fun tmps (x : Tmp × Value) => tmps.setIfInBounds x.1 x.2) arr) = ((ps.zip args').foldl (fun tmps p => tmps.setIfInBounds p.1 p.2) arr) := by
          rw [<- Array.foldl_toList, Array.toList_zip]
         rw [<- e] at this
         exact this
       . cases hs
     . cases hs
 . cases hs
def aMethod (P : Program) (ty : TypeId) (v : Value) (name : String) : Option (FuncId × Value) := match P.info? ty with
 | some i => (match i.methods.find? (·.name == name) with
  | some m => if m.path.isEmpty then (match m.func, P.underlying ty with
   | some (f, true), some (.pointer _) => some (f, v)
   | some (_, false), some (.pointer _) => none
   | some (f, false), some _ => some (f, v)
   | _, _ => none) else none
  | none => none)
 | none => none
theorem xy3 {ty : TypeId} {v v' : Value} {name : String} {f : FuncId} {u : Value} (hs : aMethod P ty v name = some (f, u)) (k : Nat) (w : World) : u = v /\ (method (k + 1) ty v' name).run P w = .ok (f, v') w := by
 unfold aMethod at hs
 split at hs
 . rename_i i hi
   split at hs
   . rename_i m hm
     split at hs
     . rename_i hp
       have hpath : m.path.toList = [] := by
         have : m.path.size = 0 := by rw [Array.isEmpty_iff_size_eq_zero] at hp; exact hp
         exact List.eq_nil_of_length_eq_zero (by rw [Array.length_toList]; exact this)
       split at hs
       . rename_i f' el hfu hu
         cases hs
         refine ⟨rfl, ?_⟩
         simp only [method, Sem.run_bind, rI hi, Result.andThen_ok, hm, hpath, follow, Sem.run_pure, hfu, receiverAt, run_underlying hu, Place.get]
       . cases hs
       . rename_i f' d hd hfu hu
         cases hs
         refine ⟨rfl, ?_⟩
         cases d <;> first | exact (hd _ rfl).elim | simp only [method, Sem.run_bind, rI hi, Result.andThen_ok, hm, hpath, follow, Sem.run_pure, hfu, receiverAt, run_underlying hu, Place.get]
       . cases hs
     . cases hs
   . cases hs
 . cases hs
def aCallO (P : Program) (n : Nat) (t : T Value) (h : AH) : Op -> Outs
 | .call ⟨.value f, ⟨args⟩, _⟩ => match aO n t f, aOs n t args with
  | some (.func fn ⟨first⟩ ⟨cap⟩), some vs => aInvoke P fn cap (first ++ vs) h
  | _, _ => none
 | .call ⟨.invoke recv name, ⟨args⟩, _⟩ => match aO n t recv, aOs n t args with
  | some (.iface ty v), some vs => (match aMethod P ty v name with
   | some (f, _) => aCallF P f (v :: vs) h
   | none => none)
  | _, _ => none
 | _ => none
theorem simC (hN : NoCount P) (r : R w0 φ h w) {a : Act} (f : FR φ n t a.tmps) {o : Oper} {l : List (AN × AH)} (hs : aCallO P n t h o.op = some l) : Sim w0 P φ h w (execOp a.eval o) l := by
 cases hop : o.op with
 | call c =>
  rw [hop] at hs
  obtain ⟨callee, args, Ts⟩ := c
  obtain ⟨args⟩ := args
  cases callee with
  | value fv =>
   simp only [aCallO] at hs
   split at hs
   . rename_i fn first cap vs hfv hvs
     have h1 := Z5 f hfv
     have h2 := zz8 f hvs
     generalize hev : a.eval fv = u at h1
     cases h1 with
     | @func _ fn' _ _ first' cap' hfn ha hb h3 h4 =>
      obtain ⟨an, nx, rfl, hrun, hnr⟩ := xy4 hN r hs hfn (LR.of hb h4) ((LR.of ha h3).append h2)
      refine ⟨an, h, List.mem_singleton.2 rfl, nx, w, φ, ?_, .refl φ h, r, hnr⟩
      have e1 : (⟨first'⟩ ++ ⟨args.map a.eval⟩ : Array Value) = ⟨first' ++ args.map a.eval⟩ := by apply Array.ext'; simp
      simp only [execOp, hop, resolve, hev, Deferred.ofValue, Sem.run_bind, Sem.run_pure, Result.andThen_ok, amap, e1]
      exact hrun
   . cases hs
  | invoke recv name =>
   simp only [aCallO] at hs
   split at hs
   . rename_i ty v vs hrv hvs
     have h1 := Z5 f hrv
     have h2 := zz8 f hvs
     generalize hev : a.eval recv = u at h1
     cases h1 with
     | @iface _ _ v' h1 =>
      split at hs
      . rename_i f' u hm
        obtain ⟨rfl, hmr⟩ := xy3 (v' := v') hm (P.types.size + Made.depth - 1) w
        obtain ⟨h5, h6⟩ := zq8 (args' := v' :: args.map a.eval) hN hs w
        subst h5
        refine ⟨_, h, List.mem_singleton.2 rfl, .enter f' ⟨v' :: args.map a.eval⟩, w, φ, ?_, .refl φ h, r, .enter (.cons h1 h2)⟩
        have e0 : P.types.size + Made.depth - 1 + 1 = P.types.size + Made.depth := by
         have : 0 < Made.depth := by decide
         omega
        rw [e0] at hmr
        have e1 : (#[Value.iface ty v'] ++ ⟨args.map a.eval⟩ : Array Value) = ⟨Value.iface ty v' :: args.map a.eval⟩ := by apply Array.ext'; simp
        have e2 : (⟨Value.iface ty v' :: args.map a.eval⟩ : Array Value).extract 1 (⟨Value.iface ty v' :: args.map a.eval⟩ : Array Value).size = ⟨args.map a.eval⟩ := by
         apply Array.ext'; simp
         exact List.take_of_length_le (by simp)
        have e3 : (#[v'] ++ ⟨args.map a.eval⟩ : Array Value) = ⟨v' :: args.map a.eval⟩ := by apply Array.ext'; simp
        simp only [execOp, hop, resolve, hev, Sem.run_bind, Sem.run_pure, Result.andThen_ok, amap, e1, invoke]
        have e4 : (⟨Value.iface ty v' :: args.map a.eval⟩ : Array Value)[0]? = some (Value.iface ty v') := by simp
        simp only [e4, e2, callMethod, Sem.run_bind, program]
        show ((Sem.run P (Sem.program Sem.pure) w).andThen _) = _
        simp only [Sem.run, Result.andThen_ok, hmr, e3]
        exact h6
      . cases hs
   . cases hs
  | builtin b => simp [aCallO] at hs
 | _ => rw [hop] at hs; simp [aCallO] at hs
def kOp : Op -> Nat
 | .alloc _ | .box _ _ | .buildSlice _ _ _ | .makeSlice _ _ _ | .makeMap _ _ => 0
 | .store _ _ _ | .mapUpdate _ _ _ _ | .insert _ _ _ _ | .mapEntry _ _ _ | .entryStore _ _ _ _ | .range _ _ | .next _ _ => 2
 | .call ⟨.value _, _, _⟩ | .call ⟨.invoke _ _, _, _⟩ => 3
 | .call _ | .convert _ _ _ => 4
 | _ => 1
def aOp (P : Program) (n : Nat) (t : T Value) (h : AH) (o : Op) : Outs := match kOp o with
 | 0 => (match aAl P n t o with
  | some p => aNew (some p) h
  | none => none)
 | 1 => (match aVal P n t h o with
  | some v => some [(.val v, h)]
  | none => none)
 | 2 => aAct P n t h o
 | 3 => aCallO P n t h o
 | _ => (match aVal P n t h o with
  | some v => some [(.val v, h)]
  | none => aAct P n t h o)
theorem R.newAl (r : R w0 φ h w) {al : Al} {mk : Mk} {x : Obj} {b : Nat} (hs : h.newAl al = some (b, h')) (hk : al.ok mk = true) (ha : AlR φ al x) :
   ∃ φ', Nx φ φ' h h' /\ φ' b = some (al.im w.heap.size) /\ R w0 φ' h' (w.alloc x) := by
 unfold AH.newAl at hs
 split at hs
 . rename_i hn
   cases hs
   have hc : (al.im w.heap.size).c = w.heap.size := by cases al <;> rfl
   obtain ⟨φ', le, h1, h2, h3⟩ := r.new (i := al.im w.heap.size) (o := al.obj) (x := x) hc trivial (fun φ' w' le hw => AlR.or hk ha le (by rw [<- hc]; exact hw))
   exact ⟨φ', .new le h3 trivial, h1, h2⟩
 . cases hs
theorem sim_op (hN : NoCount P) (r : R w0 φ h w) {a : Act} (f : FR φ n t a.tmps) {o : Oper} {l : List (AN × AH)} (hs : aOp P n t h o.op = some l) : Sim w0 P φ h w (execOp a.eval o) l := by
 have hal : ∀ {l : List (AN × AH)}, (match aAl P n t o.op with | some p => aNew (some p) h | none => none) = some l -> Sim w0 P φ h w (execOp a.eval o) l := by
   intro l hs
   split at hs
   . rename_i p hp
     obtain ⟨al, mk⟩ := p
     obtain ⟨hk, x, hx, hrun⟩ := uv8 f hp
     unfold aNew at hs
     dsimp only at hs
     split at hs
     . rename_i b h1 hn
       cases hs
       obtain ⟨φ', nx, hb, r'⟩ := r.newAl hn hk hx
       exact ⟨_, _, List.mem_singleton.2 rfl, _, _, φ', hrun w, nx, r', .val (Mk.rel hk hb)⟩
     . cases hs
   . cases hs
 have hvl : ∀ {v : Value}, aVal P n t h o.op = some v -> Sim w0 P φ h w (execOp a.eval o) [(.val v, h)] := by
   intro v hv
   obtain ⟨nx, w', φ', h1, h2, h3, h4⟩ := simN r f hv
   exact ⟨_, _, List.mem_singleton.2 rfl, nx, w', φ', h1, h2, h3, h4⟩
 unfold aOp at hs
 split at hs
 . exact hal hs
 . split at hs
   . rename_i v hv
     cases hs; exact hvl hv
   . cases hs
 . exact simA r f hs
 . exact simC hN r f hs
 . split at hs
   . rename_i v hv
     cases hs; exact hvl hv
   . exact simA r f hs
theorem ju6 {c : Call} {l : List (AN × AH)} (hs : aOp P n t h (.defer c) = some l) : False := by
 simp [aOp, kOp, qj0, aVal0] at hs
end
end Go.X
namespace Go.X
noncomputable section
open Go Go.RowKit
variable {w0 w w' : World} {φ φ' : Phi} {h h' : AH} {P : Program} {n : Nat} {t : T Value}
def FW : Option Nat -> Fence
 | none => Fence.wide
 | some l => Fence.wide.inRound l
theorem zk5 (q : Option Nat) (f : FuncId) : (FW q).fn f := by cases q <;> trivial
theorem uw3 (q : Option Nat) : (FW q).depth = none := by cases q <;> rfl
theorem zk4 (q : Option Nat) : (FW q).round = q := by cases q <;> rfl
theorem xq2 {q : Option Nat} {m : Nat} {f : FuncId} {args : Array Value} {R : Ending -> World -> Prop} (hc : Calls P f args w R) : CallsIn (FW q) m P f args w R := by
 have h1 : CallsIn Fence.wide m P f args w R := callsIn_wide.2 hc
 cases q with
 | none => exact h1
 | some l => exact h1
theorem xu3 {q : Option Nat} {m l : Nat} {f : FuncId} {tmps : Array Value} {asg body : Code} {R : Ending -> World -> Prop} (hc : RoundIn Fence.wide m P l f tmps asg body w R) : RoundIn (FW q) m P l f tmps asg body w R := by
 cases q with
 | none => exact hc
 | some k => exact hc
abbrev Call1 := AN -> AH -> Option (List (Value × AH))
def CallsOk (w0 : World) (P : Program) (call : Call1) : Prop :=
 ∀ (an : AN) (h : AH) (l : List (Value × AH)) (φ : Phi) (w : World) (nx : Next), call an h = some l -> R w0 φ h w -> NR φ an nx ->
  let post : Ending -> World -> Prop := fun e w' => ∃ v', e = .returned v' /\ ∃ v h', (v, h') ∈ l /\ ∃ φ', Nx φ φ' h h' /\ R w0 φ' h' w' /\ VR φ' v v'
  (∀ f args, nx = .enter f args -> Calls P f args w post) /\
  (∀ b f tmps asg body, nx = .round b f tmps asg body -> ∀ m, RoundIn Fence.wide m P b f tmps asg body w post)
def aStep (P : Program) (call : Call1) (n : Nat) (t : T Value) (h : AH) (o : Op) : Option (List (Value × AH)) := bindL (aOp P n t h o) fun p => match p with
 | (.val v, h') => some [(v, h')]
 | (.skip, h') => some [(undef, h')]
 | (an, h') => call an h'
theorem yq5 (hN : NoCount P) {call : Call1} (hc : CallsOk w0 P call) (r : R w0 φ h w) {a : Act} (f : FR φ n t a.tmps) {o : Oper} {l : List (Value × AH)} (hs : aStep P call n t h o.op = some l) {q : Option Nat} {m : Nat}
  {K : Act -> World -> Prop} {Q : Exit -> Act -> World -> Prop} (hK : ∀ v h' v' w' φ', (v, h') ∈ l -> Nx φ φ' h h' -> R w0 φ' h' w' -> VR φ' v v' -> K (a.put o.dst v') w') : o.wpIn (FW q) m P a w K Q := by
 refine ⟨fun f _ => zk5 q f, ?_⟩
 obtain ⟨l0, h0, hall⟩ := U1 hs
 have hnd : ∀ c, o.op ≠ .defer c := fun c e => by rw [e] at h0; exact ju6 h0
 rw [zk4, Oper.semAt_eq _ _ _ hnd]
 obtain ⟨an, h1, hm, nx, w1, φ1, hrun, nx1, r1, hnr⟩ := sim_op hN r f h0
 obtain ⟨k, hk, hsub⟩ := hall _ hm
 rw [hrun]
 have dep : (FW q).depth.isSome = true -> 1 ≤ m := by rw [uw3]; intro x; cases x
 cases hnr with
 | val hv =>
  simp only at hk; cases hk
  exact hK _ _ _ _ φ1 (hsub _ (List.mem_singleton.2 rfl)) nx1 r1 hv
 | skip =>
  simp only at hk; cases hk
  exact hK _ _ _ _ φ1 (hsub _ (List.mem_singleton.2 rfl)) nx1 r1 .undef
 | enter hl =>
  have := (hc _ _ _ _ _ _ hk r1 (.enter hl)).1 _ _ rfl
  refine ⟨dep, xq2 (this.mono ?_)⟩
  rintro e w2 ⟨v', rfl, v, h2, hmem, φ2, nx2, r2, hv⟩
  exact hK _ _ _ _ φ2 (hsub _ hmem) (nx1.trans nx2) r2 hv
 | @round b i ts sz asg body fn arr hb hf =>
  have := (hc _ _ _ _ _ _ hk r1 (.round (fn := fn) hb hf)).2 _ _ _ _ _ rfl (m - 1)
  refine ⟨dep, xu3 (this.mono ?_)⟩
  rintro e w2 ⟨v', rfl, v, h2, hmem, φ2, nx2, r2, hv⟩
  exact hK _ _ _ _ φ2 (hsub _ hmem) (nx1.trans nx2) r2 hv
def aYd (n : Nat) (t : T Value) (ops : Array Oper) (j : Nat) : Option Bool := match ops[j]? with
 | some o => (match o.dst with
  | some d => if d < n then (match t.get d with
   | some (.bool b) => some b
   | _ => none) else none
  | none => none)
 | none => none
theorem yd_ok {a : Array Value} (f : FR φ n t a) (ops : Array Oper) (j : Nat) : yielded ops a j = aYd n t ops j := by
 unfold yielded aYd
 cases ho : ops[j]? with
 | none => rfl
 | some o =>
  simp only [Option.bind_some]
  cases hd : o.dst with
  | none => rfl
  | some d =>
   simp only [Option.bind_some]
   by_cases hlt : d < n
   . rw [if_pos hlt]
     have h1 : a[d]? = some (a.getD d Go.undef) := by
      rw [Array.getD_eq_getD_getElem?, Array.getElem?_eq_getElem (by rw [f.size]; exact hlt)]; simp
     have h2 := f.at d hlt
     rw [h1]
     generalize a.getD d Go.undef = u at h2
     cases hg : t.get d with
     | none =>
      rw [hg] at h2
      simp only [Option.getD_none] at h2
      obtain ⟨l', rfl, _⟩ := VR.tuple_inv (l := []) h2
      rfl
     | some v =>
      rw [hg] at h2
      simp only [Option.getD_some] at h2
      cases h2 <;> first | rfl | (rename_i hb; cases u <;> first | rfl | (cases hb))
   . rw [if_neg hlt]
     have h9 : a[d]? = none := Array.getElem?_eq_none (Nat.le_trans (Nat.le_of_eq f.size) (Nat.le_of_not_lt hlt))
     rw [h9]
def aWant (n : Nat) (t : T Value) (ops : Array Oper) (o : Oper) : Bool := match o.guard with
 | none => true
 | some (j, b) => (match aYd n t ops j with
  | some c => c == b
  | none => false)
theorem xu4 {a : Array Value} (f : FR φ n t a) (ops : Array Oper) (o : Oper) : Region.wanted o (yielded ops a) = aWant n t ops o := by
 unfold Region.wanted aWant
 cases o.guard with
 | none => rfl
 | some p =>
  obtain ⟨j, b⟩ := p
  dsimp only
  rw [yd_ok f]
  cases aYd n t ops j with
  | none => rfl
  | some c => cases c <;> cases b <;> rfl
def aPut (n : Nat) (t : T Value) (d : Option Tmp) (v : Value) : Option (T Value) := Option.rec (motive := fun _ => Option (T Value)) (some t)
 (fun d => Bool.rec (motive := fun _ => Option (T Value)) (some (t.set d (some v))) none (Nat.ble n d)) d
theorem zx9 (n : Nat) (t : T Value) (d : Option Tmp) (v : Value) : aPut n t d v = match d with
 | none => some t
 | some d => if d < n then some (t.set d (some v)) else none := by
 cases d with
 | none => rfl
 | some d =>
  show Bool.rec (motive := fun _ => Option (T Value)) _ _ (Nat.ble n d) = _
  cases hb : Nat.ble n d with
  | true =>
   have : ¬ d < n := Nat.not_lt.2 (Nat.le_of_ble_eq_true hb)
   simp [this]
  | false =>
   have : d < n := Nat.lt_of_not_le (fun hle => by rw [Nat.ble_eq_true_of_le hle] at hb; cases hb)
   simp [this]
theorem E8 {a : Act} (f : FR φ n t a.tmps) {d : Option Tmp} {v v' : Value} {t' : T Value} (hs : aPut n t d v = some t') (hv : VR φ v v') : FR φ n t' (a.put d v').tmps /\ (a.put d v').defers = a.defers := by
 rw [zx9] at hs
 cases d with
 | none => cases hs; exact ⟨f, rfl⟩
 | some d =>
  dsimp only at hs
  split at hs
  . cases hs; exact ⟨f.set ‹_› hv, rfl⟩
  . cases hs
def aOps0 (P : Program) (call : Call1) (n : Nat) (ops : Array Oper) : List Nat -> T Value -> AH -> Option (List (T Value × AH))
 | [], t, h => some [(t, h)]
 | i :: r, t, h => match ops[i]? with
  | none => none
  | some o => if aWant n t ops o then bindL (aStep P call n t h o.op) fun p => (match aPut n t o.dst p.1 with
    | some t' => aOps0 P call n ops r t' p.2
    | none => none)
   else (match aPut n t o.dst undef with
    | some t' => aOps0 P call n ops r t' h
    | none => none)
theorem yz0 (hN : NoCount P) {call : Call1} (hc : CallsOk w0 P call) {ops : Array Oper} {q : Option Nat} {m : Nat} {Q : Exit -> Act -> World -> Prop} : ∀ (r : List Nat) {t : T Value} {h : AH} {l : List (T Value × AH)} {φ : Phi} {a : Act} {w : World},
  aOps0 P call n ops r t h = some l -> R w0 φ h w -> FR φ n t a.tmps ->
  (∀ t' h' φ' a' w', (t', h') ∈ l -> Nx φ φ' h h' -> R w0 φ' h' w' -> FR φ' n t' a'.tmps -> a'.defers = a.defers -> Q .normal a' w') -> wpOpsIn (FW q) m P ops Q r a w
 | [], t, h, l, φ, a, w, hs, hr, hf, hQ => by
  simp only [aOps0] at hs; cases hs
  exact hQ _ _ φ _ _ (List.mem_singleton.2 rfl) (.refl φ h) hr hf rfl
 | i :: r, t, h, l, φ, a, w, hs, hr, hf, hQ => by
  simp only [aOps0] at hs
  simp only [wpOpsIn]
  cases ho : ops[i]? with
  | none => rw [ho] at hs; cases hs
  | some o =>
   rw [ho] at hs
   dsimp only at hs ⊢
   rw [xu4 hf]
   split at hs
   . rename_i hw
     rw [if_pos hw]
     obtain ⟨l0, h0, hall⟩ := U1 hs
     refine yq5 hN hc hr hf h0 ?_
     intro v h1 v' w1 φ1 hm nx1 r1 hv
     obtain ⟨k, hk, hsub⟩ := hall _ hm
     dsimp only at hk
     split at hk
     . rename_i t1 ht
       obtain ⟨f1, d1⟩ := E8 (hf.mono nx1.le) ht hv
       refine yz0 hN hc r hk r1 f1 (fun t' h' φ' a' w' hm' nx' r' f' d' => hQ t' h' φ' a' w' (hsub _ hm') (nx1.trans nx') r' f' (d'.trans d1))
     . cases hk
   . rename_i hw
     rw [if_neg hw]
     split at hs
     . rename_i t1 ht
       obtain ⟨f1, d1⟩ := E8 hf ht .undef
       refine ⟨fun f _ => zk5 q f, yz0 hN hc r hs hr f1 (fun t' h' φ' a' w' hm' nx' r' f' d' => hQ t' h' φ' a' w' hm' nx' r' f' (d'.trans d1))⟩
     . cases hs
def opsStep (P : Program) (call : Call1) (n : Nat) (ops : Array Oper) (o : Oper) (ih : T Value -> AH -> Option (List (T Value × AH))) (t : T Value) (h : AH) : Option (List (T Value × AH)) :=
 Bool.rec (motive := fun _ => Option (List (T Value × AH)))
  (Option.rec (motive := fun _ => Option (List (T Value × AH))) none (fun t' => ih t' h) (aPut n t o.dst undef))
  (bindL (aStep P call n t h o.op) fun p => Option.rec (motive := fun _ => Option (List (T Value × AH))) none (fun t' => ih t' p.2) (aPut n t o.dst p.1)) (aWant n t ops o)
def aOps (P : Program) (call : Call1) (n : Nat) (ops : Array Oper) (l : List Oper) : T Value -> AH -> Option (List (T Value × AH)) :=
 List.rec (motive := fun _ => T Value -> AH -> Option (List (T Value × AH))) (fun t h => some [(t, h)]) (fun o _ ih => opsStep P call n ops o ih) l
theorem xg7 {call : Call1} {ops : Array Oper} : ∀ {l : List Oper} {r : List Nat}, r.map (fun i => ops[i]?) = l.map some -> ∀ t h, aOps P call n ops l t h = aOps0 P call n ops r t h
 | [], [], _, t, h => rfl
 | [], _ :: _, hm, _, _ => by simp at hm
 | _ :: _, [], hm, _, _ => by simp at hm
 | o :: l, i :: r, hm, t, h => by
  simp only [List.map_cons, List.cons.injEq] at hm
  have ih : ∀ t h, aOps P call n ops l t h = aOps0 P call n ops r t h := xg7 hm.2
  show opsStep P call n ops o (aOps P call n ops l) t h = _
  simp only [aOps0, hm.1]
  unfold opsStep
  cases hw : aWant n t ops o with
  | true =>
   simp only [if_true]
   congr 1
   funext p
   cases aPut n t o.dst p.1 with
   | none => rfl
   | some t' => exact ih t' p.2
  | false =>
   simp only [Bool.false_eq_true, if_false]
   cases aPut n t o.dst undef with
   | none => rfl
   | some t' => exact ih t' h
theorem jy1 (ops : Array Oper) : (List.range ops.size).map (fun i => ops[i]?) = ops.toList.map some := by
 apply List.ext_getElem?
 intro i
 simp only [List.getElem?_map, Array.getElem?_toList]
 by_cases hi : i < ops.size
 . simp [hi]
 . simp [hi]
theorem ops_ok (hN : NoCount P) {call : Call1} (hc : CallsOk w0 P call) {ops : Array Oper} {q : Option Nat} {m : Nat} {Q : Exit -> Act -> World -> Prop} {t : T Value} {h : AH} {l : List (T Value × AH)} {φ : Phi} {a : Act} {w : World}
  (hs : aOps P call n ops ops.toList t h = some l) (r : R w0 φ h w) (f : FR φ n t a.tmps)
  (hQ : ∀ t' h' φ' a' w', (t', h') ∈ l -> Nx φ φ' h h' -> R w0 φ' h' w' -> FR φ' n t' a'.tmps -> a'.defers = a.defers -> Q .normal a' w') : wpOpsIn (FW q) m P ops Q (List.range ops.size) a w :=
 yz0 hN hc _ (by rw [<- xg7 (jy1 ops)]; exact hs) r f hQ
end
end Go.X
namespace Go.X
noncomputable section
open Go Go.RowKit
variable {w0 w w' : World} {φ φ' : Phi} {h h' : AH} {P : Program} {n : Nat} {t t' : T Value}
def vt (t : T Value) (s : Nat) : Value := (t.get s).getD undef
def opsL : Op -> List Operand
 | .move x | .assign x | .box _ x | .load _ x | .nilCheck x | .unOp _ _ x | .convert _ _ x | .makeInterface _ x | .fieldAddr _ x _ | .field _ x _ | .range _ x | .next x _ | .entry x | .typeAssert x _ _ _ | .extract x _ => [x]
 | .pick c a b => [c, a, b]
 | .build _ ⟨ps⟩ | .buildSlice _ _ ⟨ps⟩ => ps.map (·.2)
 | .store _ a v | .binOp _ _ a v _ | .makeSlice _ a v | .indexAddr _ a v | .index _ a v | .lookup _ a v _ | .mapEntry _ a v => [a, v]
 | .makeFunc _ ⟨l⟩ ⟨m⟩ => l ++ m
 | .makeMap _ r => r.toList
 | .slice _ x l h m => x :: (l.toList ++ h.toList ++ m.toList)
 | .mapUpdate _ m k v | .entryStore _ m k v | .insert _ m k v => [m, k, v]
 | .call ⟨.value f, ⟨args⟩, _⟩ => f :: args
 | .call ⟨.invoke r _, ⟨args⟩, _⟩ => r :: args
 | .call ⟨.builtin _, ⟨args⟩, _⟩ => args
 | _ => []
def slots (o : Op) : List Nat := (opsL o).filterMap fun | .tmp k => some k | _ => none
theorem uk6 {x : Operand} (hx : ∀ k, x = .tmp k -> k < n -> vt t k = vt t' k) : aO n t x = aO n t' x := by
 rw [uk5, uk5]
 cases x with
 | tmp k =>
  by_cases hk : k < n
  . have := hx k rfl hk; unfold vt at this; simp only [aEv, this]
  . simp [opnOk, hk]
 | _ => rfl
theorem qw8 {o : Op} (hs : ∀ s, s ∈ slots o -> s < n -> vt t s = vt t' s) : ∀ x, x ∈ opsL o -> aO n t x = aO n t' x := by
 intro x hx
 refine uk6 (fun k e hk => hs k ?_ hk)
 subst e
 exact List.mem_filterMap.2 ⟨_, hx, rfl⟩
theorem qq3 : ∀ {l : List Operand}, (∀ x, x ∈ l -> aO n t x = aO n t' x) -> aOs n t l = aOs n t' l
 | [], _ => rfl
 | x :: l, h => by simp only [aOs]; rw [h x (by simp), qq3 (fun y hy => h y (by simp [hy]))]
theorem zz7 : ∀ {l : List (Nat × Operand)}, (∀ x, x ∈ l.map (·.2) -> aO n t x = aO n t' x) -> aPs n t l = aPs n t' l
 | [], _ => rfl
 | (i, x) :: l, h => by simp only [aPs]; rw [h x (by simp), zz7 (fun y hy => h y (by simp at hy ⊢; exact .inr hy))]
theorem zz9 {x : Option Operand} (h : ∀ y, y ∈ x.toList -> aO n t y = aO n t' y) : aOO n t x = aOO n t' x := by
 cases x with
 | none => rfl
 | some y => simp only [aOO]; rw [h y (by simp)]
theorem yq0 {o : Op} (hs : ∀ s, s ∈ slots o -> s < n -> vt t s = vt t' s) : aAl P n t o = aAl P n t' o := by
 have hx := qw8 (n := n) hs
 unfold aAl
 have : aAl0 P n t o = aAl0 P n t' o := by
  cases o with
  | box el x => simp only [aAl0]; rw [hx x (by simp [opsL])]
  | buildSlice T len ps => obtain ⟨ps⟩ := ps; simp only [aAl0]; rw [zz7 (fun y hy => hx y hy)]
  | makeSlice T l c => simp only [aAl0]; rw [hx l (by simp [opsL]), hx c (by simp [opsL])]
  | makeMap T r => cases r with
   | none => rfl
   | some x => simp only [aAl0]; rw [hx x (by simp [opsL])]
  | _ => rfl
 rw [this]
theorem yg7 {o : Op} (hs : ∀ s, s ∈ slots o -> s < n -> vt t s = vt t' s) : aVal0 P n t h o = aVal0 P n t' h o := by
 have hx := qw8 (n := n) hs
 cases o with
 | move x => simp only [aVal0]; rw [hx x (by simp [opsL])]
 | assign x => simp only [aVal0]; rw [hx x (by simp [opsL])]
 | pick c a b =>
  simp only [aVal0]; rw [hx c (by simp [opsL])]
  split
  . rename_i q _
    cases q
    . exact hx b (by simp [opsL])
    . exact hx a (by simp [opsL])
  . rfl
 | build T ps => obtain ⟨ps⟩ := ps; simp only [aVal0]; rw [zz7 (fun y hy => hx y hy)]
 | load T x => simp only [aVal0]; rw [hx x (by simp [opsL])]
 | nilCheck x => simp only [aVal0]; rw [hx x (by simp [opsL])]
 | binOp op T x y yt => simp only [aVal0]; rw [hx x (by simp [opsL]), hx y (by simp [opsL])]
 | unOp op T x => simp only [aVal0]; rw [hx x (by simp [opsL])]
 | convert s d x => simp only [aVal0]; rw [hx x (by simp [opsL])]
 | makeInterface T x => simp only [aVal0]; rw [hx x (by simp [opsL])]
 | makeFunc fn l m =>
  obtain ⟨l⟩ := l; obtain ⟨m⟩ := m
  cases fn with
  | func k => simp only [aVal0]; rw [qq3 (fun y hy => hx y (by simp [opsL, hy])), qq3 (l := m) (fun y hy => hx y (by simp [opsL, hy]))]
  | _ => rfl
 | slice T x lo hi mx =>
  simp only [aVal0]
  rw [hx x (by simp [opsL]), zz9 (x := lo) (fun y hy => hx y (by simp only [opsL, List.mem_cons, List.mem_append]; exact .inr (.inl (.inl hy)))),
    zz9 (x := hi) (fun y hy => hx y (by simp only [opsL, List.mem_cons, List.mem_append]; exact .inr (.inl (.inr hy)))), zz9 (x := mx) (fun y hy => hx y (by simp only [opsL, List.mem_cons, List.mem_append]; exact .inr (.inr hy)))]
 | fieldAddr s x f => simp only [aVal0]; rw [hx x (by simp [opsL])]
 | field T x f => simp only [aVal0]; rw [hx x (by simp [opsL])]
 | indexAddr T x i => simp only [aVal0]; rw [hx x (by simp [opsL]), hx i (by simp [opsL])]
 | index T x i => simp only [aVal0]; rw [hx x (by simp [opsL]), hx i (by simp [opsL])]
 | lookup T x k c => simp only [aVal0]; rw [hx x (by simp [opsL]), hx k (by simp [opsL])]
 | typeAssert x xT T c => simp only [aVal0]; rw [hx x (by simp [opsL])]
 | extract x i => simp only [aVal0]; rw [hx x (by simp [opsL])]
 | entry it => simp only [aVal0]; rw [hx it (by simp [opsL])]
 | call c =>
  obtain ⟨callee, args, Ts⟩ := c
  obtain ⟨args⟩ := args
  obtain ⟨Ts⟩ := Ts
  cases callee with
  | builtin b =>
    have hargs : ∀ y, y ∈ args -> aO n t y = aO n t' y := fun y hy => hx y (by simpa [opsL] using hy)
    match args, Ts, hargs with
    | [x], [T], hargs => cases b <;> first | rfl | (simp only [aVal0]; rw [hargs x (by simp)])
    | [], _, _ => cases b <;> rfl
    | [_], [], _ => cases b <;> rfl
    | [_], _ :: _ :: _, _ => cases b <;> rfl
    | _ :: _ :: _, _, _ => cases b <;> rfl
  | _ => rfl
 | _ => rfl
theorem qj1 {o : Op} (hs : ∀ s, s ∈ slots o -> s < n -> vt t s = vt t' s) : aVal P n t h o = aVal P n t' h o := by
 rw [qj0, qj0]; exact yg7 hs
theorem xq1 {o : Op} (hs : ∀ s, s ∈ slots o -> s < n -> vt t s = vt t' s) : aAct0 P n t h o = aAct0 P n t' h o := by
 have hx := qw8 (n := n) hs
 cases o with
 | store T a x => simp only [aAct0]; rw [hx a (by simp [opsL]), hx x (by simp [opsL])]
 | mapUpdate T m k x => simp only [aAct0]; rw [hx m (by simp [opsL]), hx k (by simp [opsL]), hx x (by simp [opsL])]
 | insert T m k x => simp only [aAct0]; rw [hx m (by simp [opsL]), hx k (by simp [opsL]), hx x (by simp [opsL])]
 | mapEntry T m k => simp only [aAct0]; rw [hx m (by simp [opsL]), hx k (by simp [opsL])]
 | entryStore T m k x => simp only [aAct0]; rw [hx m (by simp [opsL]), hx k (by simp [opsL]), hx x (by simp [opsL])]
 | range T x => simp only [aAct0]; rw [hx x (by simp [opsL])]
 | next it b => simp only [aAct0]; rw [hx it (by simp [opsL])]
 | convert s d x => simp only [aAct0]; rw [hx x (by simp [opsL])]
 | call c =>
  obtain ⟨callee, args, Ts⟩ := c
  obtain ⟨args⟩ := args
  obtain ⟨Ts⟩ := Ts
  cases callee with
  | builtin b =>
   simp only [aAct0]; rw [qq3 (fun y hy => hx y (by simpa [opsL] using hy))]
  | _ => rfl
 | _ => rfl
theorem xu0 {o : Op} (hs : ∀ s, s ∈ slots o -> s < n -> vt t s = vt t' s) : aAct P n t h o = aAct P n t' h o := by
 rw [zj2, zj2]; exact xq1 hs
theorem yx3 {o : Op} (hs : ∀ s, s ∈ slots o -> s < n -> vt t s = vt t' s) : aCallO P n t h o = aCallO P n t' h o := by
 have hx := qw8 (n := n) hs
 cases o with
 | call c =>
  obtain ⟨callee, args, Ts⟩ := c
  obtain ⟨args⟩ := args
  cases callee with
  | value f => simp only [aCallO]; rw [hx f (by simp [opsL]), qq3 (fun y hy => hx y (by simp [opsL, hy]))]
  | invoke r nm => simp only [aCallO]; rw [hx r (by simp [opsL]), qq3 (fun y hy => hx y (by simp [opsL, hy]))]
  | builtin b => rfl
 | _ => rfl
theorem ju7 {o : Op} (hs : ∀ s, s ∈ slots o -> s < n -> vt t s = vt t' s) : aOp P n t h o = aOp P n t' h o := by
 unfold aOp
 rw [yq0 hs, qj1 hs, xu0 hs, yx3 hs]
theorem yg9 {call : Call1} {o : Op} (hs : ∀ s, s ∈ slots o -> s < n -> vt t s = vt t' s) : aStep P call n t h o = aStep P call n t' h o := by
 unfold aStep; rw [ju7 hs]
def gslot (ops : Array Oper) (o : Oper) : Option Nat := match o.guard with
 | some (j, _) => (ops[j]?).bind (·.dst)
 | none => none
theorem qu6 {ops : Array Oper} {o : Oper} (hs : ∀ s, gslot ops o = some s -> s < n -> vt t s = vt t' s) : aWant n t ops o = aWant n t' ops o := by
 unfold aWant
 unfold gslot at hs
 cases hg : o.guard with
 | none => rfl
 | some p =>
  obtain ⟨j, b⟩ := p
  rw [hg] at hs
  dsimp only at hs ⊢
  have : aYd n t ops j = aYd n t' ops j := by
   unfold aYd
   cases ho : ops[j]? with
   | none => rfl
   | some o' =>
    dsimp only
    cases hd : o'.dst with
    | none => rfl
    | some d =>
     have h1 := hs d (by rw [ho]; exact hd)
     dsimp only
     split
     . rename_i hdn
       have h1 := h1 hdn
       unfold vt at h1
       cases h2 : t.get d with
       | none =>
        rw [h2] at h1
        cases h3 : t'.get d with
        | none => rfl
        | some u =>
         rw [h3] at h1
         simp only [Option.getD_none, Option.getD_some] at h1
         rw [<- h1]; rfl
       | some v =>
        rw [h2] at h1
        cases h3 : t'.get d with
        | none =>
         rw [h3] at h1
         simp only [Option.getD_none, Option.getD_some] at h1
         rw [h1]; rfl
        | some u =>
         rw [h3] at h1
         simp only [Option.getD_some] at h1
         rw [h1]
     . rfl
  rw [this]
def opK : Op -> Nat
 | .move _ | .assign _ | .pick _ _ _ | .build _ _ | .nilCheck _ | .unOp _ _ _ | .makeInterface _ _ | .makeFunc _ _ _ | .fieldAddr _ _ _ | .field _ _ _ | .indexAddr _ _ _ | .index _ _ _ | .typeAssert _ _ _ _ | .extract _ _ => 1
 | .load _ _ | .binOp _ _ _ _ _ | .convert _ _ _ | .slice _ _ _ _ _ | .lookup _ _ _ _ => 2
 | .call ⟨.builtin .len, _, _⟩ | .call ⟨.builtin .cap, _, _⟩ => 2
 | .alloc _ | .box _ _ | .buildSlice _ _ _ | .makeSlice _ _ _ | .makeMap _ _ => 3
 | _ => 0
theorem xj4 {o : Op} (hk : opK o = 1) : aVal0 P n t h o = aVal0 P n t h' o := by
 cases o with
 | build T ps => obtain ⟨ps⟩ := ps; rfl
 | makeFunc fn l m => obtain ⟨l⟩ := l; obtain ⟨m⟩ := m; cases fn <;> rfl
 | call c =>
  obtain ⟨callee, args, Ts⟩ := c
  cases callee with
  | builtin b => cases b <;> simp [opK] at hk
  | _ => simp [opK] at hk
 | _ => first | rfl | (simp [opK] at hk; done)
theorem ju5 {o : Op} (hk : opK o = 1) : aVal P n t h o = aVal P n t h' o := by
 rw [qj0, qj0]; exact xj4 hk
def edgesOf (o : Oper) : List Nat := (o.after.toList.filter fun e => Region.binds .any e).map (·.on)
def isE (ops : Array Oper) (j : Nat) : Bool := match ops[j]? with | some o => opK o.op == 0 | none => false
def step1 (ops : Array Oper) (ls : List Nat) (j : Nat) : Nat := ls.getD j 0 + if isE ops j then 1 else 0
def maxL : List Nat -> Nat
 | [] => 0
 | x :: l => max x (maxL l)
def levL (ops : Array Oper) : List Nat := ops.toList.foldl (fun ls o => ls ++ [maxL ((edgesOf o).map (step1 ops ls))]) []
def orL : List Nat -> Nat
 | [] => 0
 | x :: l => x ||| orL l
def maskL (ops : Array Oper) : List Nat := ops.toList.foldl (fun ms o => ms ++ [orL ((edgesOf o).map fun j => 2 ^ j ||| ms.getD j 0)]) []
def dstAt (ops : Array Oper) (j : Nat) : Option Nat := (ops[j]?).bind (·.dst)
def edgeTo (ops : Array Oper) (i j : Nat) : Bool := match ops[i]? with | some o => (edgesOf o).contains j | none => false
def opOk (n : Nat) (ops : Array Oper) (ls ms : List Nat) (i : Nat) : Bool := match ops[i]? with
  | none => false
  | some o =>
    (edgesOf o).all (fun j => decide (j < i) && decide (step1 ops ls j ≤ ls.getD i 0)) &&
    (decide (ls.getD i 0 = 0) || (edgesOf o).any fun j => decide (step1 ops ls j = ls.getD i 0)) &&
    (!isE ops i || (List.range i).all fun j => !isE ops j || decide (ls.getD j 0 < ls.getD i 0)) &&
    (match o.dst with
     | none => true
     | some d => decide (d < n) && (List.range ops.size).all fun j => decide (j = i) || (dstAt ops j != some d)) &&
    (slots o.op).all (fun s => (List.range ops.size).all fun j => (dstAt ops j != some s) || edgeTo ops i j || (edgeTo ops j i && decide (opK o.op ≠ 2))) &&
    (match o.guard with
     | none => true
     | some (g, _) => (edgesOf o).contains g) &&
    decide (ms.getD i 0 = orL ((edgesOf o).map fun j => 2 ^ j ||| ms.getD j 0))
def planOk (n : Nat) (ops : Array Oper) (ls ms : List Nat) : Bool := (List.range ops.size).all (opOk n ops ls ms)
def veq : Nat -> Value -> Value -> Bool
 | _, .bool a, .bool b => a == b
 | _, .int k a, .int j b => decide (k = j) && decide (a = b)
 | _, .float k a, .float j b => decide (k = j) && decide (a = b)
 | _, .string a, .string b => decide (a.data.toList = b.data.toList)
 | _, .pointer none, .pointer none => true
 | _, .pointer (some a), .pointer (some b) => decide (a = b)
 | _, .slice a l c, .slice b m d => decide (a = b) && decide (l = m) && decide (c = d)
 | _, .map a, .map b => decide (a = b)
 | _, .nilFunc, .nilFunc => true
 | _, .nilIface, .nilIface => true
 | k + 1, .func (.func f) ⟨a⟩ ⟨b⟩, .func (.func g) ⟨c⟩ ⟨d⟩ => decide (f = g) && lst (veq k) a c && lst (veq k) b d
 | k + 1, .iface t v, .iface u w => decide (t = u) && veq k v w
 | k + 1, .agg ⟨a⟩, .agg ⟨b⟩ => lst (veq k) a b
 | k + 1, .tuple ⟨a⟩, .tuple ⟨b⟩ => lst (veq k) a b
 | _, _, _ => false
where lst (f : Value -> Value -> Bool) : List Value -> List Value -> Bool
 | [], [] => true
 | x :: l, y :: m => f x y && lst f l m
 | _, _ => false
theorem zu9 {f : Value -> Value -> Bool} (hf : ∀ x y, f x y = true -> x = y) : ∀ (l m : List Value), veq.lst f l m = true -> l = m
 | [], [], _ => rfl
 | x :: l, y :: m, h => by
  simp only [veq.lst, Bool.and_eq_true] at h
  rw [hf x y h.1, zu9 hf l m h.2]
 | [], _ :: _, h => by simp [veq.lst] at h
 | _ :: _, [], h => by simp [veq.lst] at h
theorem yw7 {a b : ByteArray} (h : a.data.toList = b.data.toList) : a = b := by
 apply ByteArray.ext
 exact Array.ext' h
theorem qj7 : ∀ (k : Nat) (v w : Value), veq k v w = true -> v = w := by
 intro k
 induction k with
 | zero =>
  intro v w hv
  unfold veq at hv
  split at hv
  all_goals first
    | rfl
    | (simp at hv; done)
    | (simp only [Bool.and_eq_true, decide_eq_true_eq, beq_iff_eq] at hv; subst hv; rfl)
    | (simp only [Bool.and_eq_true, decide_eq_true_eq] at hv; rw [yw7 hv]; done)
    | (simp only [Bool.and_eq_true, decide_eq_true_eq] at hv; obtain ⟨h1, h2⟩ := hv; subst h1; subst h2; rfl)
    | (simp only [Bool.and_eq_true, decide_eq_true_eq] at hv; obtain ⟨⟨h1, h2⟩, h3⟩ := hv; subst h1; subst h2; subst h3; rfl)
    | (rename_i e; cases e)
 | succ k ih =>
  intro v w hv
  unfold veq at hv
  split at hv
  all_goals first
    | rfl
    | (simp at hv; done)
    | (simp only [Bool.and_eq_true, decide_eq_true_eq, beq_iff_eq] at hv; subst hv; rfl)
    | (simp only [Bool.and_eq_true, decide_eq_true_eq] at hv; rw [yw7 hv]; done)
    | (simp only [Bool.and_eq_true, decide_eq_true_eq] at hv; obtain ⟨h1, h2⟩ := hv; subst h1; subst h2; rfl)
    | (simp only [Bool.and_eq_true, decide_eq_true_eq] at hv; obtain ⟨⟨h1, h2⟩, h3⟩ := hv; subst h1; subst h2; subst h3; rfl)
    | skip
  . rename_i e
    cases e
    simp only [Bool.and_eq_true, decide_eq_true_eq] at hv
    obtain ⟨⟨h1, h2⟩, h3⟩ := hv
    rw [h1, zu9 ih _ _ h2, zu9 ih _ _ h3]
  . rename_i e
    cases e
    simp only [Bool.and_eq_true, decide_eq_true_eq] at hv
    obtain ⟨h1, h2⟩ := hv
    rw [h1, ih _ _ h2]
  . rename_i e
    cases e
    rw [zu9 ih _ _ hv]
  . rename_i e
    cases e
    rw [zu9 ih _ _ hv]
end
end Go.X
namespace Go.X
noncomputable section
open Go Go.RowKit
variable {w0 w w' : World} {φ φ' : Phi} {h h' : AH} {P : Program} {n : Nat} {t t' : T Value} {ops : Array Oper} {ls ms : List Nat}
structure PlanSpec (n : Nat) (ops : Array Oper) (ls ms : List Nat) : Prop where
 edge : ∀ (i : Nat) (o : Oper) (j : Nat), ops[i]? = some o -> j ∈ edgesOf o -> j < i /\ step1 ops ls j ≤ ls.getD i 0
 att : ∀ (i : Nat) (o : Oper), ops[i]? = some o -> ls.getD i 0 = 0 ∨ ∃ j, j ∈ edgesOf o /\ step1 ops ls j = ls.getD i 0
 tot : ∀ (i j : Nat), i < ops.size -> isE ops i = true -> isE ops j = true -> j < i -> ls.getD j 0 < ls.getD i 0
 dst : ∀ (i d : Nat), dstAt ops i = some d -> d < n /\ ∀ j, dstAt ops j = some d -> j = i
 slot : ∀ (i : Nat) (o : Oper) (s j : Nat), ops[i]? = some o -> s ∈ slots o.op -> dstAt ops j = some s -> j ∈ edgesOf o ∨ (edgeTo ops j i = true /\ opK o.op ≠ 2)
 guard : ∀ (i : Nat) (o : Oper) (g : Nat) (b : Bool), ops[i]? = some o -> o.guard = some (g, b) -> g ∈ edgesOf o
 mask : ∀ (i : Nat) (o : Oper), ops[i]? = some o -> ms.getD i 0 = orL ((edgesOf o).map fun j => 2 ^ j ||| ms.getD j 0)
theorem V7 {i d : Nat} (hd : dstAt ops i = some d) : i < ops.size := by
 unfold dstAt at hd
 cases ho : ops[i]? with
 | none => rw [ho] at hd; cases hd
 | some o => exact (Array.getElem?_eq_some_iff.1 ho).1
theorem qq7 {i : Nat} {o : Oper} (ho : ops[i]? = some o) : dstAt ops i = o.dst := by unfold dstAt; rw [ho]; rfl
theorem jy5 (hp : planOk n ops ls ms = true) : PlanSpec n ops ls ms := by
 unfold planOk at hp
 rw [List.all_eq_true] at hp
 have key : ∀ (i : Nat) (o : Oper), ops[i]? = some o -> opOk n ops ls ms i = true := fun i o ho => hp i (List.mem_range.2 (Array.getElem?_eq_some_iff.1 ho).1)
 have un : ∀ (i : Nat) (o : Oper), ops[i]? = some o -> _ := fun i o ho => by
   have := key i o ho
   unfold opOk at this
   rw [ho] at this
   simp only [Bool.and_eq_true] at this
   exact this
 refine ⟨fun i o j ho hj => ?_, fun i o ho => ?_, fun i j hi hE hE' hlt => ?_, fun i d hd => ?_, fun i o s j ho hs hd => ?_, fun i o g b ho hg => ?_, fun i o ho => ?_⟩
 . obtain ⟨⟨⟨⟨⟨⟨h1, h2⟩, h3⟩, h4⟩, h5⟩, h6⟩, h7⟩ := un i o ho
   have := List.all_eq_true.1 h1 j hj
   simpa using this
 . obtain ⟨⟨⟨⟨⟨⟨h1, h2⟩, h3⟩, h4⟩, h5⟩, h6⟩, h7⟩ := un i o ho
   simp only [Bool.or_eq_true, decide_eq_true_eq, List.any_eq_true] at h2
   exact h2
 . have ho : ops[i]? = some ops[i] := Array.getElem?_eq_getElem hi
   obtain ⟨⟨⟨⟨⟨⟨h1, h2⟩, h3⟩, h4⟩, h5⟩, h6⟩, h7⟩ := un i _ ho
   rw [hE] at h3
   simp only [Bool.not_true, Bool.false_or, List.all_eq_true] at h3
   have := h3 j (List.mem_range.2 hlt)
   rw [hE'] at this
   simpa using this
 . have hi := V7 hd
   have ho : ops[i]? = some ops[i] := Array.getElem?_eq_getElem hi
   obtain ⟨⟨⟨⟨⟨⟨h1, h2⟩, h3⟩, h4⟩, h5⟩, h6⟩, h7⟩ := un i _ ho
   rw [qq7 ho] at hd
   rw [hd] at h4
   simp only [Bool.and_eq_true, decide_eq_true_eq, List.all_eq_true] at h4
   refine ⟨h4.1, fun j hj => ?_⟩
   have := h4.2 j (List.mem_range.2 (V7 hj))
   rw [hj] at this
   simpa using this
 . obtain ⟨⟨⟨⟨⟨⟨h1, h2⟩, h3⟩, h4⟩, h5⟩, h6⟩, h7⟩ := un i o ho
   have := List.all_eq_true.1 (List.all_eq_true.1 h5 s hs) j (List.mem_range.2 (V7 hd))
   rw [hd] at this
   simp only [bne_self_eq_false, Bool.false_or, Bool.or_eq_true, Bool.and_eq_true, decide_eq_true_eq] at this
   rcases this with h8 | h8
   . left
     unfold edgeTo at h8
     rw [ho] at h8
     simpa using h8
   . exact .inr h8
 . obtain ⟨⟨⟨⟨⟨⟨h1, h2⟩, h3⟩, h4⟩, h5⟩, h6⟩, h7⟩ := un i o ho
   rw [hg] at h6
   simpa using h6
 . obtain ⟨⟨⟨⟨⟨⟨h1, h2⟩, h3⟩, h4⟩, h5⟩, h6⟩, h7⟩ := un i o ho
   simpa using h7
theorem yj2 {l : List Nat} {i : Nat} (hb : (orL l).testBit i = true) : ∃ x, x ∈ l /\ x.testBit i = true := by
 induction l with
 | nil => simp [orL] at hb
 | cons x l ih =>
  simp only [orL, Nat.testBit_or, Bool.or_eq_true] at hb
  rcases hb with hb | hb
  . exact ⟨x, by simp, hb⟩
  . obtain ⟨y, h1, h2⟩ := ih hb; exact ⟨y, by simp [h1], h2⟩
theorem yv7 (sp : PlanSpec n ops ls ms) {L : Nat -> Prop} (hcl : ∀ (i : Nat) (o : Oper), L i -> ops[i]? = some o -> ∀ j, j ∈ edgesOf o -> L j) : ∀ (i k : Nat), L i -> i < ops.size -> (ms.getD i 0).testBit k = true -> L k := by
 intro i
 induction i using Nat.strongRecOn with
 | _ i ih =>
  intro k hi hlt hb
  have ho : ops[i]? = some ops[i] := Array.getElem?_eq_getElem hlt
  rw [sp.mask i _ ho] at hb
  obtain ⟨x, hx, hxb⟩ := yj2 hb
  obtain ⟨j, hj, rfl⟩ := List.mem_map.1 hx
  have hji := (sp.edge i _ j ho hj).1
  have hLj := hcl i _ hi ho j hj
  rw [Nat.testBit_or, Bool.or_eq_true] at hxb
  rcases hxb with h1 | h1
  . rw [Nat.testBit_two_pow] at h1
    have : j = k := by simpa using h1
    subst this; exact hLj
  . exact ih j hji k hLj (by omega) h1
def aN (P : Program) (n : Nat) (t : T Value) (h : AH) (o : Op) : Option (Value × AH) :=
 if opK o = 3 then (match aAl P n t o with
  | some (al, mk) => (match h.newAl al with
   | some (b, h') => some (mk.val b, h')
   | none => none)
  | none => none)
 else if opK o = 0 then none else (match aVal P n t h o with
  | some v => some (v, h)
  | none => none)
def aNs (P : Program) (n : Nat) (ops : Array Oper) : List Nat -> T Value -> AH -> Option (T Value × AH)
 | [], t, h => some (t, h)
 | i :: r, t, h => match ops[i]? with
  | none => none
  | some o => if aWant n t ops o then (match aN P n t h o.op with
    | some (v, h') => (match aPut n t o.dst v with
     | some t' => aNs P n ops r t' h'
     | none => none)
    | none => none)
   else (match aPut n t o.dst undef with
    | some t' => aNs P n ops r t' h
    | none => none)
theorem jv4 {d : Option Tmp} {v : Value} (hs : aPut n t d v = some t') (_hn : T.Ok (n)) (s : Nat) : vt t' s = if d = some s then v else vt t s := by
 rw [zx9] at hs
 cases d with
 | none => cases hs; simp
 | some d =>
  dsimp only at hs
  split at hs
  . rename_i hd
    cases hs
    unfold vt
    rw [T.get_set]
    by_cases e : s = d
    . subst e; simp
    . rw [if_neg e, if_neg (by intro x; cases x; exact e rfl)]
  . cases hs
def NFact (P : Program) (n : Nat) (ops : Array Oper) (o : Oper) (tt : T Value) (hh : AH) (t1 : T Value) (h1 : AH) (b : Nat) : Prop :=
 (aWant n tt ops o = true /\ (((opK o.op = 1 ∨ opK o.op = 2) /\ ∃ v, aVal P n tt hh o.op = some v /\ ∀ d, o.dst = some d -> vt t1 d = v) ∨
  (opK o.op = 3 /\ ∃ al mk, aAl P n tt o.op = some (al, mk) /\ b < h1.next /\ h1.m.get b = some al.obj /\ ∀ d, o.dst = some d -> vt t1 d = mk.val b))) ∨
 (aWant n tt ops o = false /\ ∀ d, o.dst = some d -> vt t1 d = undef)
theorem opK_le (o : Op) : opK o ≤ 3 := by unfold opK; split <;> omega
theorem xq0 (sp : PlanSpec n ops ls ms) (hn : T.Ok (n)) : ∀ (r : List Nat) {t : T Value} {h : AH} {t1 : T Value} {h1 : AH}, r.Pairwise (· < ·) -> aNs P n ops r t h = some (t1, h1) -> T.Ok (h.next) ->
  (h.next ≤ h1.next /\ T.Ok (h1.next) /\ ∀ b, b < h.next -> h1.m.get b = h.m.get b) /\
  (∀ s, (∀ i, i ∈ r -> dstAt ops i ≠ some s) -> vt t1 s = vt t s) /\
  ∃ b : Nat -> Nat, (∀ i, i ∈ r -> ((h.next ≤ b i / 2 /\ b i / 2 < h1.next /\ b i % 2 = 0) ∨ b i = 2 * i + 1) /\ ∃ o tt hh, ops[i]? = some o /\ (∀ s, (∀ j, j ∈ r -> j < i -> dstAt ops j ≠ some s) -> vt tt s = vt t s) /\
   (∀ s j, j ∈ r -> j < i -> dstAt ops j = some s -> vt tt s = vt t1 s) /\ NFact P n ops o tt hh t1 h1 (b i / 2) /\ (opK o.op = 3 -> aWant n tt ops o = true -> b i % 2 = 0)) /\ (∀ i j, i ∈ r -> j ∈ r -> i ≠ j -> b i ≠ b j)
 | [], t, h, t1, h1, _, hs, ht => by
  simp only [aNs] at hs; cases hs
  exact ⟨⟨Nat.le_refl _, ht, fun _ _ => rfl⟩, fun _ _ => rfl, fun _ => 0, fun i hi => by simp at hi, fun i j hi => by simp at hi⟩
 | i :: r, t, h, t1, h1, hpw, hs, ht => by
  simp only [aNs] at hs
  have hpw' := List.pairwise_cons.1 hpw
  cases ho : ops[i]? with
  | none => rw [ho] at hs; cases hs
  | some o =>
   rw [ho] at hs
   dsimp only at hs
   have hdi := qq7 ho
   -- the rest, from what the first leaves
   have rest : ∀ {v : Value} {t2 : T Value} {h2 : AH} {bi : Nat}, aPut n t o.dst v = some t2 -> aNs P n ops r t2 h2 = some (t1, h1) -> h.next ≤ h2.next -> T.Ok (h2.next) -> (∀ b, b < h.next -> h2.m.get b = h.m.get b) ->
       ((h.next ≤ bi / 2 /\ bi / 2 < h2.next /\ bi % 2 = 0) ∨ bi = 2 * i + 1) -> (∀ t1 h1, (∀ d, o.dst = some d -> vt t1 d = v) -> h2.next ≤ h1.next -> (∀ b, b < h2.next -> h1.m.get b = h2.m.get b) -> NFact P n ops o t h t1 h1 (bi / 2)) -> (opK o.op = 3 -> aWant n t ops o = true -> bi % 2 = 0) ->
       (h.next ≤ h1.next /\ T.Ok (h1.next) /\ ∀ b, b < h.next -> h1.m.get b = h.m.get b) /\
       (∀ s, (∀ k, k ∈ i :: r -> dstAt ops k ≠ some s) -> vt t1 s = vt t s) /\
       ∃ b : Nat -> Nat, (∀ k, k ∈ i :: r -> ((h.next ≤ b k / 2 /\ b k / 2 < h1.next /\ b k % 2 = 0) ∨ b k = 2 * k + 1) /\ ∃ o tt hh, ops[k]? = some o /\ (∀ s, (∀ j, j ∈ i :: r -> j < k -> dstAt ops j ≠ some s) -> vt tt s = vt t s) /\
         (∀ s j, j ∈ i :: r -> j < k -> dstAt ops j = some s -> vt tt s = vt t1 s) /\ NFact P n ops o tt hh t1 h1 (b k / 2) /\ (opK o.op = 3 -> aWant n tt ops o = true -> b k % 2 = 0)) /\ (∀ k j, k ∈ i :: r -> j ∈ i :: r -> k ≠ j -> b k ≠ b j) := by
     intro v t2 h2 bi hput hrest hle ht2 hget hbi hfact hpar
     have hv := jv4 hput hn
     obtain ⟨⟨a1, a2, a3⟩, a4, b, a5, a6⟩ := xq0 sp hn r hpw'.2 hrest ht2
     have hdst : ∀ d, o.dst = some d -> vt t1 d = v := by
       intro d hd
       rw [a4 d (fun k hk hkd => by
         have := (sp.dst i d (by rw [hdi]; exact hd)).2 k hkd
         have := hpw'.1 k hk
         omega), hv, if_pos hd]
     refine ⟨⟨Nat.le_trans hle a1, a2, fun b hb => (a3 b (by omega)).trans (hget b hb)⟩, fun s hs => ?_, fun k => if k = i then bi else b k, fun k hk => ?_, fun k j hk hj hkj => ?_⟩
     . rw [a4 s (fun k hk => hs k (List.mem_cons_of_mem _ hk)), hv, if_neg (fun e => hs i (by simp) (by rw [hdi]; exact e))]
     . by_cases e : k = i
       . subst e
         simp only [if_true]
         refine ⟨?_, o, t, h, ho, fun s _ => rfl, fun s j hj hlt hd => ?_, hfact t1 h1 hdst a1 a3, hpar⟩
         . rcases hbi with hbi | hbi
           . exact .inl ⟨hbi.1, by omega, hbi.2.2⟩
           . exact .inr hbi
         . rcases List.mem_cons.1 hj with hj | hj
           . omega
           . have := hpw'.1 j hj; omega
       . have hkr : k ∈ r := by rcases List.mem_cons.1 hk with hk | hk; exact (e hk).elim; exact hk
         dsimp only
         rw [if_neg e]
         obtain ⟨c1, o', tt, hh, c2, c3, c4, c5⟩ := a5 k hkr
         refine ⟨by rcases c1 with c1 | c1; exact .inl ⟨by omega, c1.2⟩; exact .inr c1, o', tt, hh, c2, fun s hs => ?_, fun s j hj hlt hd => ?_, c5⟩
         . rw [c3 s (fun j hj hlt => hs j (List.mem_cons_of_mem _ hj) hlt), hv, if_neg (fun e2 => hs i (by simp) (hpw'.1 k hkr) (by rw [hdi]; exact e2))]
         . rcases List.mem_cons.1 hj with hj | hj
           . subst hj
             have hod : o.dst = some s := by rw [<- hdi]; exact hd
             rw [c3 s (fun j2 hj2 _ hd2 => by
               have := (sp.dst j s hd).2 j2 hd2
               have := hpw'.1 j2 hj2
               omega), hv, if_pos hod, hdst s hod]
           . exact c4 s j hj hlt hd
     . dsimp only
       by_cases e : k = i
       . by_cases e2 : j = i
         . exact (hkj (e.trans e2.symm)).elim
         . have hjr : j ∈ r := by rcases List.mem_cons.1 hj with hj | hj; exact (e2 hj).elim; exact hj
           rw [if_pos e, if_neg e2]
           have c1 := (a5 j hjr).1
           have := hpw'.1 j hjr
           rcases hbi with hbi | hbi <;> rcases c1 with c1 | c1 <;> omega
       . have hkr : k ∈ r := by rcases List.mem_cons.1 hk with hk | hk; exact (e hk).elim; exact hk
         rw [if_neg e]
         by_cases e2 : j = i
         . rw [if_pos e2]
           have c1 := (a5 k hkr).1
           have := hpw'.1 k hkr
           rcases hbi with hbi | hbi <;> rcases c1 with c1 | c1 <;> omega
         . have hjr : j ∈ r := by rcases List.mem_cons.1 hj with hj | hj; exact (e2 hj).elim; exact hj
           rw [if_neg e2]
           exact a6 k j hkr hjr hkj
   split at hs
   . rename_i hw
     split at hs
     . rename_i v h2 hN
       split at hs
       . rename_i t2 hput
         unfold aN at hN
         split at hN
         . rename_i hk
           split at hN
           . rename_i al mk hal
             split at hN
             . rename_i b h3 hna
               cases hN
               unfold AH.newAl at hna
               split at hna
               . rename_i _
                 cases hna
                 have e2 : 2 * h.next / 2 = h.next := by omega
                 refine rest (bi := 2 * h.next) hput hs (Nat.le_succ _) trivial (fun b hb => ?_) (.inl ⟨by rw [e2]; exact Nat.le_refl _, by rw [e2]; exact Nat.lt_succ_self _, by omega⟩) (fun t1 h1 hd hle hg => .inl ⟨hw, .inr ⟨hk, al, mk, hal, by rw [e2]; exact Nat.lt_of_lt_of_le (Nat.lt_succ_self _) hle, ?_, by rw [e2]; exact hd⟩⟩) (fun _ _ => by omega)
                 . show (h.m.set h.next (some al.obj)).get b = _
                   rw [T.get_set, if_neg (by omega)]
                 . rw [e2, hg h.next (Nat.lt_succ_self _)]
                   show (h.m.set h.next (some al.obj)).get h.next = _
                   rw [T.get_set, if_pos rfl]
               . cases hna
             . cases hN
           . cases hN
         . rename_i hk
           split at hN
           . cases hN
           . rename_i hk0
             split at hN
             . rename_i v' hv
               cases hN
               have hk12 : opK o.op = 1 ∨ opK o.op = 2 := by have := opK_le o.op; omega
               exact rest (bi := 2 * i + 1) hput hs (Nat.le_refl _) ht (fun _ _ => rfl) (.inr rfl) (fun t1 h1 hd _ _ => .inl ⟨hw, .inl ⟨hk12, _, hv, hd⟩⟩) (fun hk3 _ => by omega)
             . cases hN
       . cases hs
     . cases hs
   . rename_i hw
     split at hs
     . rename_i t2 hput
       exact rest (bi := 2 * i + 1) hput hs (Nat.le_refl _) ht (fun _ _ => rfl) (.inr rfl) (fun t1 h1 hd _ _ => .inr ⟨by simpa using hw, hd⟩) (fun _ hw2 => absurd hw2 (by simpa using hw))
     . cases hs
end
end Go.X
namespace Go.X
noncomputable section
open Go Go.RowKit
variable {w0 w w' : World} {φ φ' φ0 : Phi} {h h' h0 h1 h2 : AH} {P : Program} {n : Nat} {t t' tb t1 t2 : T Value} {ops : Array Oper} {ls ms : List Nat}
def lvN (ops : Array Oper) (ls : List Nat) (L : Nat) : List Nat := (List.range ops.size).filter fun i => !isE ops i && decide (ls.getD i 0 = L)
def lvE (ops : Array Oper) (ls : List Nat) (L : Nat) : Option Nat := (List.range ops.size).find? fun i => isE ops i && decide (ls.getD i 0 = L)
open Classical in
def propB (p : Prop) : Bool := decide p
open Classical in
theorem xy6 {p : Prop} (h : p) : propB p = true := by unfold propB; exact decide_eq_true h
open Classical in
theorem jg9 {p : Prop} (h : propB p = true) : p := by unfold propB at h; exact of_decide_eq_true h
def recheck (P : Program) (n : Nat) (ops : Array Oper) (l : List Nat) (t : T Value) (h : AH) : Bool := l.all fun i => match ops[i]? with
 | none => true
 | some o => if opK o.op = 2 then (if aWant n t ops o then (match aVal P n t h o.op, o.dst with
  | some v, some d => veq 9 v (vt t d) || propB (v = vt t d)
  | some _, none => true
  | none, _ => false) else true) else true
def aCont (P : Program) (call : Call1) (n : Nat) (ops : Array Oper) (ls ms : List Nat) (rec : Nat -> List Nat -> T Value -> AH -> Option (List (T Value × AH))) (L : Nat) (seen : List Nat) (t : T Value) (h : AH) : Option (List (T Value × AH)) :=
 match lvE ops ls L with
 | none => some [(t, h)]
 | some e => match ops[e]? with
  | none => none
  | some o => if aWant n t ops o then bindL (aStep P call n t h o.op) fun p => (match aPut n t o.dst p.1 with
    | some t2 => rec (L + 1) ((seen ++ lvN ops ls L).filter fun i => !(ms.getD e 0).testBit i) t2 p.2
    | none => none)
   else (match aPut n t o.dst undef with
    | some t2 => rec (L + 1) ((seen ++ lvN ops ls L).filter fun i => !(ms.getD e 0).testBit i) t2 h
    | none => none)
def aLv (P : Program) (call : Call1) (n : Nat) (ops : Array Oper) (ls ms : List Nat) : Nat -> Nat -> List Nat -> T Value -> AH -> Option (List (T Value × AH))
 | 0, _, _, _, _ => none
 | k + 1, L, seen, t, h => match aNs P n ops (lvN ops ls L) t h with
  | none => none
  | some (t1, h1) => if recheck P n ops (seen ++ lvN ops ls L) t1 h1 then aCont P call n ops ls ms (aLv P call n ops ls ms k) L seen t1 h1 else none
def sameOp {α : Type} (f : α -> α -> Bool) : Option α -> Option α -> Bool
 | none, none => true
 | some a, some b => f a b
 | _, _ => false
def sameT {α : Type} (f : α -> α -> Bool) : T α -> T α -> Bool
 | .e, .e => true
 | .n l v r, .n l' v' r' => sameT f l l' && (sameOp f v v' && sameT f r r')
 | _, _ => false
def sameEs : List (Value × Value × Nat) -> List (Value × Value × Nat) -> Bool
 | [], [] => true
 | (a, b, c) :: l, (a', b', c') :: l' => veq 9 a a' && (veq 9 b b' && (Nat.beq c c' && sameEs l l'))
 | _, _ => false
def sameNs : List Nat -> List Nat -> Bool
 | [], [] => true
 | a :: l, b :: m => Nat.beq a b && sameNs l m
 | _, _ => false
def sameBag : List (ByteArray × Value) -> List (ByteArray × Value) -> Bool
 | [], [] => true
 | (a, v) :: l, (b, u) :: m => sameB a b && (veq 9 v u && sameBag l m)
 | _, _ => false
def sameO : AObj -> AObj -> Bool
 | .cells c n op ro, .cells c' n' op' ro' => sameT (veq 9) c c' && (Nat.beq n n' && (Nat.beq op op' && (ro == ro')))
 | .map es cl ro, .map es' cl' ro' => sameEs es es' && (Nat.beq cl cl' && (ro == ro'))
 | .dfr, .dfr => true
 | .bag es, .bag es' => sameBag es es'
 | .tcells ty c n op, .tcells ty' c' n' op' => Nat.beq ty ty' && (sameT (veq 9) c c' && (Nat.beq n n' && Nat.beq op op'))
 | .iter m since seen st, .iter m' since' seen' st' => sameOp Nat.beq m m' && (Nat.beq since since' && (sameNs seen seen' && Nat.beq st st'))
 | .sit s p, .sit s' p' => sameBs s.data.toList s'.data.toList && Nat.beq p p'
 | _, _ => false
def aDrawP (_ : Program) (_ : Call1) (_ : Nat) (_ : Array Oper) (_ : T Value) (_ : AH) : Option (List (T Value × AH)) := none
def aDraw (P : Program) (call : Call1) (n : Nat) (ops : Array Oper) (t : T Value) (h : AH) : Option (List (T Value × AH)) :=
 if planOk n ops (levL ops) (maskL ops) then aLv P call n ops (levL ops) (maskL ops) (ops.size + 1) 0 [] t h else aDrawP P call n ops t h
structure Core (w0 : World) (P : Program) (n : Nat) (ops : Array Oper) (φ0 : Phi) (h0 : AH) (tb : T Value) (d0 : List Deferred) (done : Nat -> Prop) (sn : List Nat) (t1 : T Value) (h1 : AH) (φ : Phi) (b : Nat -> Nat)
  (lst : Nat -> Prop) (a : Act) (w : World) : Prop where
 ld : ∀ i, i < ops.size -> lst i -> done i
 ed : ∀ i, i < ops.size -> isE ops i = true -> done i -> lst i
 r : R w0 φ h1 w
 nx : Nx φ0 φ h0 h1
 size : a.tmps.size = n
 fw : ∀ s u j, a.tmps[s]? = some u -> lst j -> dstAt ops j = some s -> VR φ (vt t1 s) u
 fb : ∀ s u, a.tmps[s]? = some u -> (∀ j, lst j -> dstAt ops j ≠ some s) -> VR φ (vt tb s) u
 df : a.defers = d0
 tt : ∀ s, (∀ j, dstAt ops j = some s -> ¬ done j) -> vt t1 s = vt tb s
 nn : ∀ (i : Nat) (o : Oper), ops[i]? = some o -> isE ops i = false -> done i -> ¬ lst i -> ∃ q hh,
  (∀ s, s ∈ slots o.op -> (∀ j, j ∈ edgesOf o -> dstAt ops j = some s -> vt q s = vt t1 s) /\ ((∀ j, j ∈ edgesOf o -> dstAt ops j ≠ some s) -> vt q s = vt tb s)) /\
  (∀ s, gslot ops o = some s -> vt q s = vt t1 s) /\ NFact P n ops o q hh t1 h1 (b i / 2) /\ (opK o.op = 3 -> aWant n q ops o = true -> φ (b i / 2) = none /\ b i % 2 = 0)
 bb : ∀ i j, i < ops.size -> j < ops.size -> isE ops i = false -> isE ops j = false -> done i -> done j -> i ≠ j -> b i ≠ b j
 bl : ∀ i, i < ops.size -> isE ops i = false -> done i -> (h0.next ≤ b i / 2 /\ b i / 2 < h1.next /\ b i % 2 = 0) ∨ b i = 2 * i + 1
 sn : ∀ (i : Nat) (o : Oper), ops[i]? = some o -> opK o.op = 2 -> done i -> ¬ lst i -> i ∈ sn
theorem R.ghosts (r : R w0 φ h w) (hle : h.next ≤ h'.next) (ht : T.Ok (h'.next)) (hg : ∀ b, b < h.next -> h'.m.get b = h.m.get b) : R w0 φ h' w := by
 have e : ∀ {b i}, φ b = some i -> h'.m.get b = h.m.get b := fun hb => hg _ (r.lt _ _ hb).2
 exact ⟨fun b i o hi ho => r.dom b i o hi (by rw [<- e hi]; exact ho), fun b i o hi ho => r.low b i o hi (by rw [<- e hi]; exact ho),
  fun b b' i i' o o' hi hi' ho ho' => r.inj b b' i i' o o' hi hi' (by rw [<- e hi]; exact ho) (by rw [<- e hi']; exact ho'), fun b i hi => ⟨(r.lt b i hi).1, Nat.lt_of_lt_of_le (r.lt b i hi).2 hle⟩, ht, r.below⟩
theorem F3 {i L : Nat} : i ∈ lvN ops ls L ↔ i < ops.size /\ isE ops i = false /\ ls.getD i 0 = L := by
 unfold lvN
 rw [List.mem_filter, List.mem_range]
 simp
theorem lvN_pw (L : Nat) : (lvN ops ls L).Pairwise (· < ·) := by
 unfold lvN
 exact List.Pairwise.filter _ List.pairwise_lt_range
theorem ux1 {i : Nat} {o : Oper} (ho : ops[i]? = some o) : isE ops i = (opK o.op == 0) := by unfold isE; rw [ho]
theorem uj4 (sp : PlanSpec n ops ls ms) (hn : T.Ok (n)) {d0 : List Deferred} {L : Nat} {seen : List Nat} {b : Nat -> Nat} {lst : Nat -> Prop} {a : Act}
   (c : Core w0 P n ops φ0 h0 tb d0 (fun i => ls.getD i 0 < L) seen t h φ b lst a w) (hs : aNs P n ops (lvN ops ls L) t h = some (t1, h1)) (hr : recheck P n ops (seen ++ lvN ops ls L) t1 h1 = true) :
   ∃ b', Core w0 P n ops φ0 h0 tb d0 (fun i => ls.getD i 0 < L ∨ (isE ops i = false /\ ls.getD i 0 = L)) (seen ++ lvN ops ls L) t1 h1 φ b' lst a w /\
     ∀ (i : Nat) (o : Oper), ops[i]? = some o -> opK o.op = 2 -> (ls.getD i 0 < L ∨ (isE ops i = false /\ ls.getD i 0 = L)) -> ¬ lst i -> aWant n t1 ops o = true -> ∃ v, aVal P n t1 h1 o.op = some v /\ ∀ d, o.dst = some d -> vt t1 d = v := by
 obtain ⟨⟨a1, a2, a3⟩, a4, bn, a5, a6⟩ := xq0 sp hn _ (lvN_pw L) hs c.r.nx
 have keep : ∀ s j, dstAt ops j = some s -> ls.getD j 0 ≠ L -> vt t1 s = vt t s := fun s j hd hl => a4 s (fun i hi hdi => by
   have := (sp.dst j s hd).2 i hdi
   subst this
   exact hl (F3.1 hi).2.2)
 have none_t1 : ∀ s, (∀ j, dstAt ops j = some s -> ¬ (ls.getD j 0 < L ∨ (isE ops j = false /\ ls.getD j 0 = L))) -> vt t1 s = vt tb s := fun s hs => by
   rw [a4 s (fun i hi hdi => hs i hdi (.inr (F3.1 hi).2)), c.tt s (fun j hd hl => hs j hd (.inl hl))]
 have gst : ∀ {i : Nat} {o : Oper} {s : Nat}, ops[i]? = some o -> gslot ops o = some s -> ∃ g, g ∈ edgesOf o /\ dstAt ops g = some s := by
   intro i o s ho hg
   unfold gslot at hg
   cases hq : o.guard with
   | none => rw [hq] at hg; cases hg
   | some p =>
     obtain ⟨g, q⟩ := p
     rw [hq] at hg
     exact ⟨g, sp.guard i o g q ho hq, hg⟩
 -- an edge's writer has been taken before
 have edge_lt : ∀ {i : Nat} {o : Oper} {j : Nat}, ops[i]? = some o -> j ∈ edgesOf o -> j < i /\ (ls.getD j 0 < ls.getD i 0 ∨ (isE ops j = false /\ ls.getD j 0 ≤ ls.getD i 0)) := by
   intro i o j ho hj
   obtain ⟨e1, e2⟩ := sp.edge i o j ho hj
   refine ⟨e1, ?_⟩
   unfold step1 at e2
   cases hE : isE ops j with
   | true => rw [hE] at e2; simp only [if_true] at e2; left; omega
   | false => rw [hE] at e2; right; exact ⟨rfl, by simpa using e2⟩
 have fact : ∀ (i : Nat) (o : Oper), ops[i]? = some o -> isE ops i = false -> (ls.getD i 0 < L ∨ (isE ops i = false /\ ls.getD i 0 = L)) -> ¬ lst i -> ∃ q hh,
     (∀ s, s ∈ slots o.op -> (∀ j, j ∈ edgesOf o -> dstAt ops j = some s -> vt q s = vt t1 s) /\ ((∀ j, j ∈ edgesOf o -> dstAt ops j ≠ some s) -> vt q s = vt tb s)) /\
     (∀ s, gslot ops o = some s -> vt q s = vt t1 s) /\ NFact P n ops o q hh t1 h1 ((if ls.getD i 0 = L then bn i else b i) / 2) /\ (opK o.op = 3 -> aWant n q ops o = true -> φ ((if ls.getD i 0 = L then bn i else b i) / 2) = none /\ (if ls.getD i 0 = L then bn i else b i) % 2 = 0) := by
   intro i o ho hE hd hl
   have hdi := qq7 ho
   by_cases hL : ls.getD i 0 = L
   . have hi : i ∈ lvN ops ls L := F3.2 ⟨(Array.getElem?_eq_some_iff.1 ho).1, hE, hL⟩
     obtain ⟨c1, o', q, hh, c2, c3, c4, c5, c6⟩ := a5 i hi
     rw [ho] at c2; cases c2
     rw [if_pos hL]
     have edgew : ∀ s j, j ∈ edgesOf o -> dstAt ops j = some s -> vt q s = vt t1 s := by
       intro s j hj hds
       obtain ⟨e1, e2⟩ := edge_lt ho hj
       by_cases hjr : j ∈ lvN ops ls L
       . exact c4 s j hjr e1 hds
       . have hne : ls.getD j 0 ≠ L := fun e => by
           rcases e2 with e2 | e2
           . omega
           . exact hjr (F3.2 ⟨V7 hds, e2.1, e⟩)
         rw [keep s j hds hne]
         exact c3 s (fun j2 hj2 _ hd2 => by
           have := (sp.dst j s hds).2 j2 hd2
           subst this; exact hjr hj2)
     refine ⟨q, hh, fun s hs => ⟨fun j hj hds => edgew s j hj hds, fun hno => ?_⟩, fun s hg => ?_, c5, fun hk3 hw => ?_⟩
     . have hw : ∀ j, dstAt ops j = some s -> i < j /\ ls.getD i 0 ≤ ls.getD j 0 := by
         intro j hds
         rcases sp.slot i o s j ho hs hds with h5 | h5
         . exact (hno j h5 hds).elim
         . have hjo : ops[j]? = some (ops[j]'(V7 hds)) := Array.getElem?_eq_getElem (V7 hds)
           unfold edgeTo at h5
           rw [hjo] at h5
           have hji : i ∈ edgesOf (ops[j]'(V7 hds)) := by simpa using h5.1
           have := edge_lt hjo hji
           exact ⟨this.1, by rcases this.2 with h6 | h6 <;> omega⟩
       rw [c3 s (fun j _ hlt hds => by have := hw j hds; omega)]
       exact c.tt s (fun j hds hlt => by have := hw j hds; omega)
     . obtain ⟨g, hg1, hg2⟩ := gst ho hg
       exact edgew s g hg1 hg2
     . refine ⟨?_, c6 hk3 hw⟩
       cases hφ : φ (bn i / 2) with
       | none => rfl
       | some im =>
         have := (c.r.lt _ _ hφ).2
         have h6 := c6 hk3 hw
         rcases c1 with c1 | c1 <;> omega
   . have hlt : ls.getD i 0 < L := by rcases hd with hd | hd; exact hd; exact (hL hd.2).elim
     obtain ⟨q, hh, q1, q2, q3, q4⟩ := c.nn i o ho hE hlt hl
     rw [if_neg hL]
     have edgew : ∀ s j, j ∈ edgesOf o -> dstAt ops j = some s -> vt t1 s = vt t s := by
       intro s j hj hds
       have := edge_lt ho hj
       exact keep s j hds (by rcases this.2 with h6 | h6 <;> omega)
     refine ⟨q, hh, fun s hs => ⟨fun j hj hds => ?_, fun hno => (q1 s hs).2 hno⟩, fun s hg => ?_, ?_, q4⟩
     . rw [(q1 s hs).1 j hj hds, edgew s j hj hds]
     . obtain ⟨g, hg1, hg2⟩ := gst ho hg
       rw [q2 s hg, edgew s g hg1 hg2]
     . have hdst : ∀ d, o.dst = some d -> vt t1 d = vt t d := fun d hd => keep d i (by rw [hdi]; exact hd) hL
       rcases q3 with ⟨hw, ⟨hk, v, hv, hd⟩ | ⟨hk, al, mk, hal, hb1, hb2, hd⟩⟩ | ⟨hw, hd⟩
       . exact .inl ⟨hw, .inl ⟨hk, v, hv, fun d hd' => by rw [hdst d hd', hd d hd']⟩⟩
       . exact .inl ⟨hw, .inr ⟨hk, al, mk, hal, by omega, by rw [a3 _ hb1]; exact hb2, fun d hd' => by rw [hdst d hd', hd d hd']⟩⟩
       . exact .inr ⟨hw, fun d hd' => by rw [hdst d hd', hd d hd']⟩
 refine ⟨fun i => if ls.getD i 0 = L then bn i else b i, ⟨fun i hi hl => .inl (c.ld i hi hl), fun i hi hE hd => ?_, c.r.ghosts a1 a2 a3, ?_, c.size, fun s u j hu hl hds => ?_, c.fb, c.df, none_t1, fact, fun i j hi hj hEi hEj hdi hdj hij => ?_, fun i hi hE hd => ?_, fun i o ho hk hd hl => ?_⟩, ?_⟩
 . rcases hd with hd | hd
   . exact c.ed i hi hE hd
   . rw [hE] at hd; cases hd.1
 . exact ⟨c.nx.le, Nat.le_trans c.nx.next a1, fun k hk hlt => ⟨(c.nx.ghost k hk hlt).1, (a3 k (Nat.lt_of_lt_of_le hlt c.nx.next)).trans (c.nx.ghost k hk hlt).2⟩⟩
 . have := c.ld j (V7 hds) hl
   rw [keep s j hds (by omega)]
   exact c.fw s u j hu hl hds
 . by_cases e1 : ls.getD i 0 = L
   . have hi' : i ∈ lvN ops ls L := F3.2 ⟨hi, hEi, e1⟩
     rw [if_pos e1]
     by_cases e2 : ls.getD j 0 = L
     . rw [if_pos e2]
       exact a6 i j hi' (F3.2 ⟨hj, hEj, e2⟩) hij
     . rw [if_neg e2]
       have c1 := (a5 i hi').1
       have c2 := c.bl j hj hEj (by rcases hdj with h5 | h5; exact h5; exact (e2 h5.2).elim)
       rcases c1 with c1 | c1 <;> rcases c2 with c2 | c2 <;> omega
   . rw [if_neg e1]
     have hi2 : ls.getD i 0 < L := by rcases hdi with h5 | h5; exact h5; exact (e1 h5.2).elim
     by_cases e2 : ls.getD j 0 = L
     . have hj' : j ∈ lvN ops ls L := F3.2 ⟨hj, hEj, e2⟩
       rw [if_pos e2]
       have c1 := (a5 j hj').1
       have c2 := c.bl i hi hEi hi2
       rcases c1 with c1 | c1 <;> rcases c2 with c2 | c2 <;> omega
     . rw [if_neg e2]
       exact c.bb i j hi hj hEi hEj hi2 (by rcases hdj with h5 | h5; exact h5; exact (e2 h5.2).elim) hij
 . by_cases e1 : ls.getD i 0 = L
   . rw [if_pos e1]
     have c1 := (a5 i (F3.2 ⟨hi, hE, e1⟩)).1
     rcases c1 with c1 | c1
     . exact .inl ⟨Nat.le_trans c.nx.next c1.1, c1.2⟩
     . exact .inr c1
   . rw [if_neg e1]
     rcases c.bl i hi hE (by rcases hd with h5 | h5; exact h5; exact (e1 h5.2).elim) with c2 | c2
     . exact .inl ⟨c2.1, Nat.lt_of_lt_of_le c2.2.1 a1, c2.2.2⟩
     . exact .inr c2
 . rcases hd with hd | hd
   . exact List.mem_append_left _ (c.sn i o ho hk hd hl)
   . exact List.mem_append_right _ (F3.2 ⟨(Array.getElem?_eq_some_iff.1 ho).1, hd⟩)
 . intro i o ho hk hd hl hw
   have hin : i ∈ seen ++ lvN ops ls L := by
     rcases hd with hd | hd
     . exact List.mem_append_left _ (c.sn i o ho hk hd hl)
     . exact List.mem_append_right _ (F3.2 ⟨(Array.getElem?_eq_some_iff.1 ho).1, hd⟩)
   have := List.all_eq_true.1 hr i hin
   rw [ho] at this
   dsimp only at this
   rw [if_pos hk, if_pos hw] at this
   cases hv : aVal P n t1 h1 o.op with
   | none => rw [hv] at this; simp at this
   | some v =>
     refine ⟨v, rfl, fun d hd => ?_⟩
     rw [hv, hd] at this
     dsimp only at this
     rw [Bool.or_eq_true] at this
     rcases this with this | this
     . exact (qj7 9 _ _ this).symm
     . exact (jg9 this).symm
end
end Go.X
namespace Go.X
noncomputable section
open Go Go.RowKit
variable {w0 w w' : World} {φ φ' φ0 : Phi} {h h' h0 h1 h2 : AH} {P : Program} {n : Nat} {t t' tb t1 t2 : T Value} {ops : Array Oper} {ls ms : List Nat}
theorem zv8 {l : Array Bool} {i : Nat} (h : l.getD i true = false) : ((l.setIfInBounds i true).toList.countP (fun b => !b)) + 1 = l.toList.countP (fun b => !b) := by
 have hi : i < l.size := by
  rcases Nat.lt_or_ge i l.size with h' | h'
  . exact h'
  . rw [Array.getD_eq_getD_getElem?, Array.getElem?_eq_none h'] at h; simp at h
 have he : l.toList[i]'(by simpa using hi) = false := by
  rw [Array.getD_eq_getD_getElem?, Array.getElem?_eq_getElem hi] at h
  simpa using h
 rw [Array.toList_setIfInBounds]
 exact aux _ i _ he
where
 aux : ∀ (m : List Bool) (i : Nat) (h : i < m.length), m[i] = false -> (m.set i true).countP (fun b => !b) + 1 = m.countP (fun b => !b)
  | [], i, h, _ => by simp at h
  | b :: m, 0, _, he => by simp at he; subst he; simp
  | b :: m, i + 1, h, he => by
    simp only [List.set_cons_succ, List.countP_cons]
    have := aux m i (by simpa using h) (by simpa using he)
    omega
theorem R.bindGhost (r : R w0 φ h w) {b : Nat} {al : Al} {mk : Mk} {x : Obj} (hφ : φ b = none) (hlt : b < h.next) (hg : h.m.get b = some al.obj) (hk : al.ok mk = true) (ha : AlR φ al x) :
   ∃ φ', Le φ φ' /\ φ' b = some (al.im w.heap.size) /\ (∀ k, k ≠ b -> φ' k = φ k) /\ R w0 φ' h (w.alloc x) := by
 have hc : (al.im w.heap.size).c = w.heap.size := by cases al <;> rfl
 have le : Le φ (fun k => if k = b then some (al.im w.heap.size) else φ k) := by
   intro k j hj
   show (if k = b then _ else φ k) = some j
   rw [if_neg (fun e => by subst e; rw [hφ] at hj; cases hj)]; exact hj
 have hnew : (w.alloc x).heap[w.heap.size]? = some x := World.alloc_heap_new w x
 have r1 := r.allocW x
 refine ⟨fun k => if k = b then some (al.im w.heap.size) else φ k, le, if_pos rfl, fun k hk => if_neg hk, ?_⟩
 refine ⟨fun k j o hj ho => ?_, fun k j o hj ho hr => ?_, fun k k' j j' o o' hj hj' ho ho' hr hcc => ?_, fun k j hj => ?_, r.nx, r1.below⟩
 . by_cases e : k = b
   . subst e
     rw [if_pos rfl] at hj; cases hj
     rw [hg] at ho; cases ho
     exact AlR.or hk ha le hnew
   . rw [if_neg e] at hj
     exact (r1.dom k j o hj ho).mono le
 . by_cases e : k = b
   . subst e
     rw [if_pos rfl] at hj; cases hj
     rw [hc]; exact r.below.size
   . rw [if_neg e] at hj
     exact r1.low k j o hj ho hr
 . by_cases e : k = b
   . by_cases e' : k' = b
     . rw [e, e']
     . subst e
       rw [if_pos rfl] at hj; cases hj
       rw [if_neg e'] at hj'
       have := (r.lt k' j' hj').1
       omega
   . by_cases e' : k' = b
     . subst e'
       rw [if_pos rfl] at hj'; cases hj'
       rw [if_neg e] at hj
       have := (r.lt k j hj).1
       omega
     . rw [if_neg e] at hj
       rw [if_neg e'] at hj'
       exact r.inj k k' j j' o o' hj hj' ho ho' hr hcc
 . by_cases e : k = b
   . subst e
     rw [if_pos rfl] at hj; cases hj
     rw [hc]
     exact ⟨by simp, hlt⟩
   . rw [if_neg e] at hj
     exact r1.lt k j hj
theorem Core.frame {d0 : List Deferred} {done : Nat -> Prop} {sn : List Nat} {b : Nat -> Nat} {lst : Nat -> Prop} {a : Act} (hn : T.Ok (n)) (c : Core w0 P n ops φ0 h0 tb d0 done sn t1 h1 φ b lst a w) :
   ∃ tS, FR φ n tS a.tmps /\ (∀ s j, s < n -> lst j -> dstAt ops j = some s -> vt tS s = vt t1 s) /\ (∀ s, s < n -> (∀ j, lst j -> dstAt ops j ≠ some s) -> vt tS s = vt tb s) := by
 classical
 let g : Nat -> Value := fun s => if ∃ j, lst j /\ dstAt ops j = some s then vt t1 s else vt tb s
 have hget : ∀ s, s < n -> vt (T.fill ((List.range n).map g) 0 .e) s = g s := by
   intro s hs
   unfold vt
   rw [T.get_fill, if_pos (by simp; exact hs)]
   simp [hs]
 refine ⟨T.fill ((List.range n).map g) 0 .e, ⟨c.size, hn, fun s u hu => ?_⟩, fun s j hs hl hd => ?_, fun s hs hno => ?_⟩
 . have hs : s < n := by
     have := (Array.getElem?_eq_some_iff.1 hu).1
     rw [c.size] at this; exact this
   have := hget s hs
   unfold vt at this
   rw [this]
   show VR φ (if ∃ j, lst j /\ dstAt ops j = some s then vt t1 s else vt tb s) u
   by_cases e : ∃ j, lst j /\ dstAt ops j = some s
   . rw [if_pos e]
     obtain ⟨j, h1, h2⟩ := e
     exact c.fw s u j hu h1 h2
   . rw [if_neg e]
     exact c.fb s u hu (fun j hl hd => e ⟨j, hl, hd⟩)
 . rw [hget s hs]
   exact if_pos ⟨j, hl, hd⟩
 . rw [hget s hs]
   exact if_neg (fun ⟨j, h1, h2⟩ => hno j h1 h2)
theorem Core.put {d0 : List Deferred} {done : Nat -> Prop} {sn : List Nat} {b : Nat -> Nat} {lst : Nat -> Prop} {a : Act} (c : Core w0 P n ops φ0 h0 tb d0 done sn t1 h1 φ b lst a w) (le : Le φ φ')
  {i : Nat} {o : Oper} (ho : ops[i]? = some o) {v v' : Value} (hv : VR φ' v v') {t2 : T Value} (h2 : ∀ s, o.dst ≠ some s -> vt t2 s = vt t1 s) (h3 : ∀ d, o.dst = some d -> vt t2 d = v) :
  (a.put o.dst v').tmps.size = n /\ (∀ s u j, (a.put o.dst v').tmps[s]? = some u -> (lst j ∨ j = i) -> dstAt ops j = some s -> VR φ' (vt t2 s) u) /\
    (∀ s u, (a.put o.dst v').tmps[s]? = some u -> (∀ j, (lst j ∨ j = i) -> dstAt ops j ≠ some s) -> VR φ' (vt tb s) u) /\ (a.put o.dst v').defers = d0 := by
 have hdi := qq7 ho
 cases hd : o.dst with
 | none =>
  refine ⟨c.size, fun s u j hu hl hds => ?_, fun s u hu hno => (c.fb s u hu (fun j hl => hno j (.inl hl))).mono le, c.df⟩
  rcases hl with hl | hl
  . rw [h2 s (by rw [hd]; simp)]; exact (c.fw s u j hu hl hds).mono le
  . subst hl; rw [hdi, hd] at hds; cases hds
 | some d =>
  have hsz : (a.tmps.setIfInBounds d v').size = n := by simp [c.size]
  refine ⟨hsz, fun s u j hu hl hds => ?_, fun s u hu hno => ?_, c.df⟩
  . have hu' : (a.tmps.setIfInBounds d v')[s]? = some u := hu
    rw [Array.getElem?_setIfInBounds] at hu'
    by_cases e : d = s
    . subst e
      rw [if_pos rfl] at hu'
      split at hu'
      . cases hu'; rw [h3 d hd]; exact hv
      . cases hu'
    . rw [if_neg e] at hu'
      have hji : j ≠ i := fun e2 => by subst e2; rw [hdi, hd] at hds; cases hds; exact e rfl
      rw [h2 s (by rw [hd]; intro x; cases x; exact e rfl)]
      exact (c.fw s u j hu' (hl.resolve_right hji) hds).mono le
  . have hu' : (a.tmps.setIfInBounds d v')[s]? = some u := hu
    rw [Array.getElem?_setIfInBounds] at hu'
    by_cases e : d = s
    . subst e; exact (hno i (.inr rfl) (by rw [hdi, hd])).elim
    . rw [if_neg e] at hu'
      exact (c.fb s u hu' (fun j hl => hno j (.inl hl))).mono le
end
end Go.X
