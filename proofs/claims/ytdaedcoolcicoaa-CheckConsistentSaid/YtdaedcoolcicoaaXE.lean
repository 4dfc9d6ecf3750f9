/- The closed evaluator, part E: operations, all but calls of functions (2). -/
import Derived.Test.YtdaedcoolcicoaaXD
namespace Go.X
noncomputable section
open Go Go.RowKit
variable {w0 w w' : World} {φ φ' : Phi} {h h' : AH} {P : Program} {n : Nat} {t : T Value}

/-- The entry that an iterator is at. -/
def aEntryIt (it : Value) (h : AH) : Option Value := match it with
  | .pointer (some ⟨b, 0, none⟩) => (match h.m.get b with
    | some (.iter (some bm) _ seen st) => (match h.m.get bm, seen.getLast? with
      | some (.map es cl _), some q => if cl = st then (match es.find? (fun e => e.2.2 == q) with
        | some e => some (.tuple #[e.1, e.2.1])
        | none => none) else none
      | _, _ => none)
    | _ => none)
  | _ => none
theorem ER.find {es : List (Value × Value × Nat)} {l : List MapEntry} (he : ER φ es l) (q : Nat) {e : Value × Value × Nat} (hf : es.find? (fun e => e.2.2 == q) = some e) :
    ∃ e', l.find? (fun e => e.born == q) = some e' ∧ VR φ e.1 e'.key ∧ VR φ e.2.1 e'.val := by
  induction he with
  | nil => simp at hf
  | @cons k v k' v' b l l' hk hv _ ih =>
    simp only [List.find?_cons] at hf ⊢
    cases hb : (b == q) with
    | true => rw [hb] at hf; simp at hf; subst hf; exact ⟨_, rfl, hk, hv⟩
    | false => rw [hb] at hf; simpa using ih hf
theorem sim_entryIt (r : R w0 φ h w) {it it' v : Value} (hs : aEntryIt it h = some v) (hit : VR φ it it') : SimV w0 P φ h w (Instr.entry it') v h := by
  unfold aEntryIt at hs
  split at hs
  · rename_i b
    obtain ⟨i, hi, _, rfl⟩ := hit.ptr_inv
    have hi : φ b = some i := hi
    split at hs
    · rename_i bm since seen st ho
      obtain ⟨hd, m', hw, hm⟩ := r.dom _ _ _ hi ho
      obtain ⟨im, him, e⟩ := hm.map_inv
      cases e
      have hget : (getObj i.c).run P w = .ok (.mapIter (some im.c) since ⟨seen⟩ st) w := by simp [getObj, Sem.run, hw]
      rw [hd]
      split at hs
      · rename_i es cl ro q hom hq
        obtain ⟨arr, h1, _, h2⟩ := r.map (P := P) him hom
        split at hs
        · rename_i hcl
          split at hs
          · rename_i e hf
            cases hs
            obtain ⟨e', h3, h4, h5⟩ := h2.find q hf
            have h3' : arr.find? (fun e => e.born == q) = some e' := by rw [← Array.find?_toList]; exact h3
            have hq' : (⟨seen⟩ : Array Nat).back? = some q := by rw [← Array.getLast?_toList]; exact hq
            refine .here r (v' := .tuple #[e'.key, e'.val]) ?_ (.tuple' (.cons h4 (.cons h5 .nil)))
            subst hcl
            simp [Instr.entry, hget, hq', h1, h3']
          · cases hs
        · cases hs
      · cases hs
    · cases hs
  · cases hs

/-- Operations that change nothing. -/
def aVal0 (P : Program) (n : Nat) (t : T Value) (h : AH) : Op → Option Value
  | .move x => aO n t x
  | .assign x => aO n t x
  | .pick c a b => match aO n t c with
    | some (.bool q) => aO n t (if q then a else b)
    | _ => none
  | .build T ⟨ps⟩ => match aPs n t ps with | some l => aBuild P T l | none => none
  | .load T x => match aO n t x with | some (.pointer (some a)) => aLoad P T a h | _ => none
  | .nilCheck x => match aO n t x with | some v => if nilOk v then some v else none | none => none
  | .binOp op T x y _ => match aO n t x, aO n t y with | some a, some b => aBin P op T x y a b h | _, _ => none
  | .unOp op _ x => match aO n t x with | some v => aUn P op v | none => none
  | .convert s d x => match aO n t x with | some v => aConv P s d v h | none => none
  | .makeInterface T x => match aO n t x with | some v => aMkI P T v | none => none
  | .makeFunc (.func f) ⟨l⟩ ⟨m⟩ => match aOs n t l, aOs n t m with | some a, some b => some (.func (.func f) ⟨a⟩ ⟨b⟩) | _, _ => none
  | .slice T x lo hi mx => match aO n t x, aOO n t lo, aOO n t hi, aOO n t mx with | some v, some a, some b, some c => aSl P T v a b c h | _, _, _, _ => none
  | .fieldAddr s x f => match aO n t x with | some (.pointer (some a)) => aField P s a f | _ => none
  | .field T x f => match aO n t x with | some v => aFieldV P T v f | none => none
  | .indexAddr T x i => match aO n t x, aO n t i with | some v, some j => aIndex P T v j | _, _ => none
  | .index T x i => match aO n t x, aO n t i with | some v, some j => aIndexV P T v j | _, _ => none
  | .lookup T x k c => match aO n t x, aO n t k with | some v, some j => aLookup P T v j c h | _, _ => none
  | .typeAssert x _ T c => match aO n t x with | some v => aAssert P v T c | none => none
  | .extract x i => match aO n t x with | some v => aExtract v i | none => none
  | .entry it => match aO n t it with | some v => aEntryIt v h | none => none
  | .call ⟨.builtin .len, ⟨[x]⟩, ⟨[T]⟩⟩ => match aO n t x with | some v => aLen P T v h | none => none
  | .call ⟨.builtin .cap, ⟨[x]⟩, ⟨[T]⟩⟩ => match aO n t x with | some v => aCap P T v | none => none
  | _ => none
theorem amap {α β : Type} (f : α → β) (l : List α) : Array.map f ⟨l⟩ = ⟨l.map f⟩ := by apply Array.ext'; simp
theorem exec_builtin {ρ : Operand → Value} {o : Oper} {b : Builtin} {args : List Operand} {Ts : Array TypeId} (hop : o.op = .call ⟨.builtin b, ⟨args⟩, Ts⟩) :
    ∃ cs, execOp ρ o = builtin b Ts o.type cs ⟨args.map ρ⟩ := by
  refine ⟨Array.map (fun x : Operand => match x with | Operand.const _ => true | _ => false) ⟨args⟩, ?_⟩
  simp only [execOp, hop, resolve]
  rw [amap ρ args]
  rfl
theorem simN0 (r : R w0 φ h w) {a : Act} (f : FR φ n t a.tmps) {o : Oper} {v : Value} (hs : aVal0 P n t h o.op = some v) :
    ∃ nx w' φ', (execOp a.eval o).run P w = .ok nx w' ∧ Nx φ φ' h h ∧ R w0 φ' h w' ∧ NR φ' (.val v) nx := by
  have fin : ∀ {s : Sem Value}, SimV w0 P φ h w s v h → execOp a.eval o = (do pure (.value (← s))) → ∃ nx w' φ', (execOp a.eval o).run P w = .ok nx w' ∧ Nx φ φ' h h ∧ R w0 φ' h w' ∧ NR φ' (.val v) nx := by
    intro s hsv he
    obtain ⟨v', w', φ', h1, h2, h3, h4⟩ := hsv
    exact ⟨.value v', w', φ', by rw [he, Sem.run_bind, h1]; rfl, h2, h3, .val h4⟩
  cases hop : o.op with
  | move x =>
    rw [hop] at hs; simp only [aVal0] at hs
    exact fin (s := pure (a.eval x)) (.pure r (aO_ok f hs)) (by simp only [execOp, hop]; rfl)
  | assign x =>
    rw [hop] at hs; simp only [aVal0] at hs
    exact fin (s := pure (a.eval x)) (.pure r (aO_ok f hs)) (by simp only [execOp, hop]; rfl)
  | pick c x y =>
    rw [hop] at hs; simp only [aVal0] at hs
    split at hs
    · rename_i q hq
      have hc := (aO_ok f hq).bool_inv
      refine fin (s := pure (if q then a.eval x else a.eval y)) (.pure r ?_) ?_
      · have := aO_ok f hs
        cases q <;> exact this
      · simp only [execOp, hop, hc, asBool]; rfl
    · cases hs
  | build T parts =>
    obtain ⟨ps⟩ := parts
    rw [hop] at hs; simp only [aVal0] at hs
    split at hs
    · rename_i l hl
      have hmap : ((⟨ps⟩ : Array (Nat × Operand)).map fun (i, x) => (i, a.eval x)) = ⟨ps.map fun p => (p.1, a.eval p.2)⟩ := by
        apply Array.ext'; simp
      exact fin (sim_build r hs (aPs_ok f hl)) (by simp only [execOp, hop, hmap])
    · cases hs
  | load T x =>
    rw [hop] at hs; simp only [aVal0] at hs
    split at hs
    · rename_i ad hx
      exact fin (sim_load r hs (aO_ok f hx)) (by simp only [execOp, hop])
    · cases hs
  | nilCheck x =>
    rw [hop] at hs; simp only [aVal0] at hs
    split at hs
    · rename_i v0 hv
      split at hs
      · rename_i hk
        cases hs
        have hv' := aO_ok f hv
        refine fin (s := pure (a.eval x)) (.pure r hv') ?_
        simp only [execOp, hop]
        unfold nilOk at hk
        split at hk
        · obtain ⟨i, _, _, e⟩ := hv'.ptr_inv; rw [e]; rfl
        · generalize a.eval x = u at hv'; cases hv'; rfl
        · generalize a.eval x = u at hv'; cases hv' with
          | func hf => cases hf with | same hf => rfl
        · cases hk
      · cases hs
    · cases hs
  | binOp op T x y yT =>
    rw [hop] at hs; simp only [aVal0] at hs
    split at hs
    · rename_i va vb hx hy
      exact fin (sim_bin r hs (aO_ok f hx) (aO_ok f hy)) (by simp only [execOp, hop])
    · cases hs
  | unOp op T x =>
    rw [hop] at hs; simp only [aVal0] at hs
    split at hs
    · rename_i va hx
      exact fin (sim_un r hs (aO_ok f hx)) (by simp only [execOp, hop])
    · cases hs
  | convert s d x =>
    rw [hop] at hs; simp only [aVal0] at hs
    split at hs
    · rename_i va hx
      exact fin (sim_conv r hs (aO_ok f hx)) (by simp only [execOp, hop])
    · cases hs
  | makeInterface T x =>
    rw [hop] at hs; simp only [aVal0] at hs
    split at hs
    · rename_i va hx
      exact fin (sim_mkI r hs (aO_ok f hx)) (by simp only [execOp, hop])
    · cases hs
  | makeFunc fn l m =>
    obtain ⟨l⟩ := l
    obtain ⟨m⟩ := m
    rw [hop] at hs
    cases fn with
    | func k =>
      simp only [aVal0] at hs
      split at hs
      · rename_i va vb hx hy
        cases hs
        refine fin (s := pure (.func (.func k) ⟨l.map a.eval⟩ ⟨m.map a.eval⟩)) (.pure r (.func' (.same (fun l e => by cases e)) (aOs_ok f hx) (aOs_ok f hy))) ?_
        simp only [execOp, hop, Instr.makeFunc]
        simp
      · cases hs
    | _ => simp [aVal0] at hs
  | slice T x lo hi mx =>
    rw [hop] at hs; simp only [aVal0] at hs
    split at hs
    · rename_i va x1 x2 x3 hx h1 h2 h3
      exact fin (sim_sl r hs (aO_ok f hx) (aOO_ok f h1) (aOO_ok f h2) (aOO_ok f h3)) (by simp only [execOp, hop])
    · cases hs
  | fieldAddr s x k =>
    rw [hop] at hs; simp only [aVal0] at hs
    split at hs
    · rename_i ad hx
      exact fin (sim_field r hs (aO_ok f hx)) (by simp only [execOp, hop])
    · cases hs
  | field T x k =>
    rw [hop] at hs; simp only [aVal0] at hs
    split at hs
    · rename_i va hx
      exact fin (sim_fieldV r hs (aO_ok f hx)) (by simp only [execOp, hop])
    · cases hs
  | indexAddr T x i =>
    rw [hop] at hs; simp only [aVal0] at hs
    split at hs
    · rename_i va vb hx hy
      exact fin (sim_index r hs (aO_ok f hx) (aO_ok f hy)) (by simp only [execOp, hop])
    · cases hs
  | index T x i =>
    rw [hop] at hs; simp only [aVal0] at hs
    split at hs
    · rename_i va vb hx hy
      exact fin (sim_indexV r hs (aO_ok f hx) (aO_ok f hy)) (by simp only [execOp, hop])
    · cases hs
  | lookup T x k c =>
    rw [hop] at hs; simp only [aVal0] at hs
    split at hs
    · rename_i va vb hx hy
      exact fin (sim_lookup r hs (aO_ok f hx) (aO_ok f hy)) (by simp only [execOp, hop])
    · cases hs
  | typeAssert x xT T c =>
    rw [hop] at hs; simp only [aVal0] at hs
    split at hs
    · rename_i va hx
      exact fin (sim_assert (xT := xT) r hs (aO_ok f hx)) (by simp only [execOp, hop])
    · cases hs
  | extract x i =>
    rw [hop] at hs; simp only [aVal0] at hs
    split at hs
    · rename_i va hx
      exact fin (sim_extract r hs (aO_ok f hx)) (by simp only [execOp, hop])
    · cases hs
  | entry it =>
    rw [hop] at hs; simp only [aVal0] at hs
    split at hs
    · rename_i va hx
      exact fin (sim_entryIt r hs (aO_ok f hx)) (by simp only [execOp, hop])
    · cases hs
  | call c =>
    rw [hop] at hs
    unfold aVal0 at hs
    split at hs
    all_goals first | (rename_i e; cases e; done) | skip
    · rename_i x T e
      cases e
      split at hs
      · rename_i va hx
        refine fin (s := Builtin.len_ #[T] o.type #[a.eval x]) (sim_len r hs (aO_ok f hx)) ?_
        obtain ⟨cs, hcs⟩ := exec_builtin (ρ := a.eval) hop
        rw [hcs]
        rfl
      · cases hs
    · rename_i x T e
      cases e
      split at hs
      · rename_i va hx
        refine fin (s := Builtin.cap_ #[T] o.type #[a.eval x]) (sim_cap r hs (aO_ok f hx)) ?_
        obtain ⟨cs, hcs⟩ := exec_builtin (ρ := a.eval) hop
        rw [hcs]
        rfl
      · cases hs
    · cases hs
  | _ => rw [hop] at hs; simp [aVal0] at hs

/-- Operations that change the heap, and call no function. -/
def onext (x : Option (List (Value × AH))) : Outs := match x with | some l => some (l.map fun p => (.val p.1, p.2)) | none => none
/-- The same, laid out so that what depends on the operation alone is found once. -/
structure VB where
  f : Program → Nat → T Value → AH → Option Value
/-- Numbers, fast. -/
def kInt : BinOp → Option (Int → Int → Value)
  | .add => some fun a b => .int .i64 (IntKind.i64.wrap (a + b))
  | .sub => some fun a b => .int .i64 (IntKind.i64.wrap (a - b))
  | .lss => some fun a b => .bool (a < b)
  | .leq => some fun a b => .bool (a ≤ b)
  | .gtr => some fun a b => .bool (a > b)
  | .geq => some fun a b => .bool (a ≥ b)
  | .eql => some fun a b => .bool (a == b)
  | .neq => some fun a b => .bool (a != b)
  | _ => none
theorem kInt_ok {op : BinOp} {g : Int → Int → Value} (hg : kInt op = some g) (T : TypeId) (x y : Operand) (a b : Int) : aBin P op T x y (.int .i64 a) (.int .i64 b) h = some (g a b) := by
  cases op <;> first | (cases hg; rfl) | (cases hg)
def kVal : Op → VB
  | .move x => ⟨fun _ n t _ => aO n t x⟩
  | .assign x => ⟨fun _ n t _ => aO n t x⟩
  | .pick c a b => ⟨fun _ n t _ => match aO n t c with
    | some (.bool q) => aO n t (if q then a else b)
    | _ => none⟩
  | .build T ⟨ps⟩ => ⟨fun P n t _ => match aPs n t ps with | some l => aBuild P T l | none => none⟩
  | .load T x => ⟨fun P n t h => match aO n t x with | some (.pointer (some a)) => aLoad P T a h | _ => none⟩
  | .nilCheck x => ⟨fun _ n t _ => match aO n t x with | some v => if nilOk v then some v else none | none => none⟩
  | .binOp op T x y _ => match kInt op with
    | some g => ⟨fun P n t h => match aO n t x, aO n t y with | some (.int .i64 a), some (.int .i64 b) => some (g a b) | some a, some b => aBin P op T x y a b h | _, _ => none⟩
    | none => ⟨fun P n t h => match aO n t x, aO n t y with | some a, some b => aBin P op T x y a b h | _, _ => none⟩
  | .unOp op _ x => ⟨fun P n t _ => match aO n t x with | some v => aUn P op v | none => none⟩
  | .convert s d x => ⟨fun P n t h => match aO n t x with | some v => aConv P s d v h | none => none⟩
  | .makeInterface T x => ⟨fun P n t _ => match aO n t x with | some v => aMkI P T v | none => none⟩
  | .makeFunc (.func f) ⟨l⟩ ⟨m⟩ => ⟨fun _ n t _ => match aOs n t l, aOs n t m with | some a, some b => some (.func (.func f) ⟨a⟩ ⟨b⟩) | _, _ => none⟩
  | .slice T x lo hi mx => ⟨fun P n t h => match aO n t x, aOO n t lo, aOO n t hi, aOO n t mx with | some v, some a, some b, some c => aSl P T v a b c h | _, _, _, _ => none⟩
  | .fieldAddr s x f => ⟨fun P n t _ => match aO n t x with | some (.pointer (some a)) => aField P s a f | _ => none⟩
  | .field T x f => ⟨fun P n t _ => match aO n t x with | some v => aFieldV P T v f | none => none⟩
  | .indexAddr T x i => ⟨fun P n t _ => match aO n t x, aO n t i with | some v, some j => aIndex P T v j | _, _ => none⟩
  | .index T x i => ⟨fun P n t _ => match aO n t x, aO n t i with | some v, some j => aIndexV P T v j | _, _ => none⟩
  | .lookup T x k c => ⟨fun P n t h => match aO n t x, aO n t k with | some v, some j => aLookup P T v j c h | _, _ => none⟩
  | .typeAssert x _ T c => ⟨fun P n t _ => match aO n t x with | some v => aAssert P v T c | none => none⟩
  | .extract x i => ⟨fun _ n t _ => match aO n t x with | some v => aExtract v i | none => none⟩
  | .entry it => ⟨fun _ n t h => match aO n t it with | some v => aEntryIt v h | none => none⟩
  | .call ⟨.builtin .len, ⟨[x]⟩, ⟨[T]⟩⟩ => ⟨fun P n t h => match aO n t x with | some v => aLen P T v h | none => none⟩
  | .call ⟨.builtin .cap, ⟨[x]⟩, ⟨[T]⟩⟩ => ⟨fun P n t _ => match aO n t x with | some v => aCap P T v | none => none⟩
  | _ => ⟨fun _ _ _ _ => none⟩
def aVal (P : Program) (n : Nat) (t : T Value) (h : AH) (o : Op) : Option Value := (kVal o).f P n t h
theorem aVal_eq (o : Op) : aVal P n t h o = aVal0 P n t h o := by
  cases o with
  | binOp op T x y yt =>
    unfold aVal kVal
    dsimp only
    cases hg : kInt op with
    | none => rfl
    | some g =>
      dsimp only
      simp only [aVal0]
      split
      · rename_i a b h1 h2
        rw [h1, h2]; exact (kInt_ok hg T x y a b).symm
      · rename_i a b _ h1 h2
        rw [h1, h2]
      · rename_i h0 h1
        split
        · rename_i a b h2 h3; exact (h1 _ _ h2 h3).elim
        · rfl
  | _ => unfold aVal kVal aVal0; first | rfl | (split <;> first | rfl | (exfalso; simp_all; done))
theorem simN (r : R w0 φ h w) {a : Act} (f : FR φ n t a.tmps) {o : Oper} {v : Value} (hs : aVal P n t h o.op = some v) :
    ∃ nx w' φ', (execOp a.eval o).run P w = .ok nx w' ∧ Nx φ φ' h h ∧ R w0 φ' h w' ∧ NR φ' (.val v) nx := simN0 r f (by rw [← aVal_eq]; exact hs)
def aAct0 (P : Program) (n : Nat) (t : T Value) (h : AH) : Op → Outs
  | .store T a x => match aO n t a, aO n t x with | some (.pointer (some p)), some v => osk (aStore P T p v h) | _, _ => none
  | .mapUpdate T m k x => match aO n t m, aO n t k, aO n t x with | some a, some b, some c => osk (aUpdate P T a b c h) | _, _, _ => none
  | .insert T m k x => match aO n t m, aO n t k, aO n t x with | some a, some b, some c => osk (aUpdate P T a b c h) | _, _, _ => none
  | .mapEntry T m k => match aO n t m, aO n t k with | some a, some b => ovh (aEntry P T a b h) | _, _ => none
  | .entryStore T m s x => match aO n t m, aO n t s, aO n t x with | some a, some b, some c => osk (aEStore T a b c h) | _, _, _ => none
  | .range T x => match aO n t x with | some v => ovh (aRange P T v h) | none => none
  | .next it isS => match aO n t it with | some v => onext (aNext v isS h) | none => none
  | .call ⟨.builtin b, ⟨args⟩, ⟨Ts⟩⟩ => match aOs n t args with | some vs => aBuiltin P b Ts vs h | none => none
  | _ => none
theorem simA0 (r : R w0 φ h w) {a : Act} (f : FR φ n t a.tmps) {o : Oper} {l : List (AN × AH)} (hs : aAct0 P n t h o.op = some l) : Sim w0 P φ h w (execOp a.eval o) l := by
  cases hop : o.op with
  | store T x y =>
    rw [hop] at hs; simp only [aAct0] at hs
    split at hs
    · rename_i p v hx hy
      have he : execOp a.eval o = (do Instr.storeAt T (a.eval x) (a.eval y); pure .skip) := by simp only [execOp, hop]
      rw [he]
      exact .osk hs (fun h' hh => sim_store r hh (aO_ok f hx) (aO_ok f hy))
    · cases hs
  | mapUpdate T m k x =>
    rw [hop] at hs; simp only [aAct0] at hs
    split at hs
    · rename_i va vb vc h1 h2 h3
      have he : execOp a.eval o = (do Instr.mapUpdate T (a.eval m) (a.eval k) (a.eval x); pure .skip) := by simp only [execOp, hop]
      rw [he]
      exact .osk hs (fun h' hh => sim_update r hh (aO_ok f h1) (aO_ok f h2) (aO_ok f h3))
    · cases hs
  | insert T m k x =>
    rw [hop] at hs; simp only [aAct0] at hs
    split at hs
    · rename_i va vb vc h1 h2 h3
      have he : execOp a.eval o = (do Instr.mapUpdate T (a.eval m) (a.eval k) (a.eval x); pure .skip) := by simp only [execOp, hop]
      rw [he]
      exact .osk hs (fun h' hh => sim_update r hh (aO_ok f h1) (aO_ok f h2) (aO_ok f h3))
    · cases hs
  | mapEntry T m k =>
    rw [hop] at hs; simp only [aAct0] at hs
    split at hs
    · rename_i va vb h1 h2
      have he : execOp a.eval o = (do pure (.value (← Instr.mapEntry T (a.eval m) (a.eval k)))) := by simp only [execOp, hop]
      rw [he]
      exact .ovh hs (fun v h' hh => sim_entry r hh (aO_ok f h1) (aO_ok f h2))
    · cases hs
  | entryStore T m s x =>
    rw [hop] at hs; simp only [aAct0] at hs
    split at hs
    · rename_i va vb vc h1 h2 h3
      have he : execOp a.eval o = (do Instr.entryStore T (a.eval m) (a.eval s) (a.eval x); pure .skip) := by simp only [execOp, hop]
      rw [he]
      exact .osk hs (fun h' hh => sim_estore r hh (aO_ok f h1) (aO_ok f h2) (aO_ok f h3))
    · cases hs
  | range T x =>
    rw [hop] at hs; simp only [aAct0] at hs
    split at hs
    · rename_i va h1
      have he : execOp a.eval o = (do pure (.value (← Instr.range T (a.eval x)))) := by simp only [execOp, hop]
      rw [he]
      exact .ovh hs (fun v h' hh => sim_range r hh (aO_ok f h1))
    · cases hs
  | next it isS =>
    rw [hop] at hs; simp only [aAct0] at hs
    split at hs
    · rename_i va h1
      have he : execOp a.eval o = (do pure (.value (← Instr.next (a.eval it) isS o.type))) := by simp only [execOp, hop]
      rw [he]
      unfold onext at hs
      split at hs
      · rename_i m hm
        cases hs
        obtain ⟨v, h', hmem, hsv⟩ := sim_next (ty := o.type) r hm (aO_ok f h1)
        exact .ofV hsv (List.mem_map.2 ⟨_, hmem, rfl⟩)
      · cases hs
    · cases hs
  | call c =>
    rw [hop] at hs
    obtain ⟨callee, args, Ts⟩ := c
    obtain ⟨args⟩ := args
    obtain ⟨Ts⟩ := Ts
    cases callee with
    | builtin b =>
      simp only [aAct0] at hs
      split at hs
      · rename_i vs hvs
        obtain ⟨cs, hcs⟩ := exec_builtin (ρ := a.eval) hop
        rw [hcs]
        exact sim_builtin r hs (aOs_ok f hvs)
      · cases hs
    | _ => simp [aAct0] at hs
  | _ => rw [hop] at hs; simp [aAct0] at hs
structure AB where
  f : Program → Nat → T Value → AH → Outs
def kAct : Op → AB
  | .store T a x => ⟨fun P n t h => match aO n t a, aO n t x with | some (.pointer (some p)), some v => osk (aStore P T p v h) | _, _ => none⟩
  | .mapUpdate T m k x => ⟨fun P n t h => match aO n t m, aO n t k, aO n t x with | some a, some b, some c => osk (aUpdate P T a b c h) | _, _, _ => none⟩
  | .insert T m k x => ⟨fun P n t h => match aO n t m, aO n t k, aO n t x with | some a, some b, some c => osk (aUpdate P T a b c h) | _, _, _ => none⟩
  | .mapEntry T m k => ⟨fun P n t h => match aO n t m, aO n t k with | some a, some b => ovh (aEntry P T a b h) | _, _ => none⟩
  | .entryStore T m s x => ⟨fun _ n t h => match aO n t m, aO n t s, aO n t x with | some a, some b, some c => osk (aEStore T a b c h) | _, _, _ => none⟩
  | .range T x => ⟨fun P n t h => match aO n t x with | some v => ovh (aRange P T v h) | none => none⟩
  | .next it isS => ⟨fun _ n t h => match aO n t it with | some v => onext (aNext v isS h) | none => none⟩
  | .call ⟨.builtin b, ⟨args⟩, ⟨Ts⟩⟩ => ⟨fun P n t h => match aOs n t args with | some vs => aBuiltin P b Ts vs h | none => none⟩
  | _ => ⟨fun _ _ _ _ => none⟩
def aAct (P : Program) (n : Nat) (t : T Value) (h : AH) (o : Op) : Outs := (kAct o).f P n t h
theorem aAct_eq (o : Op) : aAct P n t h o = aAct0 P n t h o := by
  unfold aAct kAct aAct0
  split <;> rfl
theorem simA (r : R w0 φ h w) {a : Act} (f : FR φ n t a.tmps) {o : Oper} {l : List (AN × AH)} (hs : aAct P n t h o.op = some l) : Sim w0 P φ h w (execOp a.eval o) l := simA0 r f (by rw [← aAct_eq]; exact hs)
end
end Go.X
