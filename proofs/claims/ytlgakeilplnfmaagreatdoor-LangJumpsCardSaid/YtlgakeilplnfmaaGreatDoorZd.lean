/- Parts of the closed evaluator. -/
import Derived.Test.YtlgakeilplnfmaaGreatDoorZc
import Derived.Laws.Externs
namespace Go.X
noncomputable section
open Go Go.RowKit
variable {w0 w w' : World} {φ φ' : Phi} {h h' : AH} {P : Program} {n : Nat} {t : T Value}
def aEntryIt (it : Value) (h : AH) : Option Value := match it with
 | .pointer (some ⟨b, 0, none⟩) => (match h.m.get b with
  | some (.iter (some bm) _ seen st) => (match h.m.get bm, seen.getLast? with
   | some (.map es cl _), some q => if cl = st then (match es.find? (fun e => e.2.2 == q) with
    | some e => some (.tuple #[e.1, e.2.1])
    | none => none) else none
   | _, _ => none)
  | _ => none)
 | _ => none
theorem ER.find {es : List (Value × Value × Nat)} {l : List MapEntry} (he : ER φ es l) (q : Nat) {e : Value × Value × Nat} (hf : es.find? (fun e => e.2.2 == q) = some e) :
  ∃ e', l.find? (fun e => e.born == q) = some e' ∧ VR φ e.1 e'.key ∧ VR φ e.2.1 e'.val := by
 induction he with
 | nil => simp at hf
 | @cons k v k' v' b l l' hk hv _ ih =>
  simp only [List.find?_cons] at hf ⊢
  cases hb : (b == q) with
  | true => rw [hb] at hf; simp at hf; subst hf; exact ⟨_, rfl, hk, hv⟩
  | false => rw [hb] at hf; simpa using ih hf
theorem sim_entryIt (r : R w0 φ h w) {it it' v : Value} (hs : aEntryIt it h = some v) (hit : VR φ it it') : SimV w0 P φ h w (Instr.entry it') v h := by
 unfold aEntryIt at hs
 split at hs
 · rename_i b
   obtain ⟨i, hi, _, rfl⟩ := hit.ptr_inv
   have hi : φ b = some i := hi
   split at hs
   · rename_i bm since seen st ho
     obtain ⟨hd, m', hw, hm⟩ := r.dom _ _ _ hi ho
     obtain ⟨im, him, e⟩ := hm.map_inv
     cases e
     have hget : (getObj i.c).run P w = .ok (.mapIter (some im.c) since ⟨seen⟩ st) w := by simp [getObj, Sem.run, hw]
     rw [hd]
     split at hs
     · rename_i es cl ro q hom hq
       obtain ⟨arr, h1, _, h2⟩ := r.map (P := P) him hom
       split at hs
       · rename_i hcl
         split at hs
         · rename_i e hf
           cases hs
           obtain ⟨e', h3, h4, h5⟩ := h2.find q hf
           have h3' : arr.find? (fun e => e.born == q) = some e' := by rw [← Array.find?_toList]; exact h3
           have hq' : (⟨seen⟩ : Array Nat).back? = some q := by rw [← Array.getLast?_toList]; exact hq
           refine .here r (v' := .tuple #[e'.key, e'.val]) ?_ (.tuple' (.cons h4 (.cons h5 .nil)))
           subst hcl
           simp [Instr.entry, hget, hq', h1, h3']
         · cases hs
       · cases hs
     · cases hs
   · cases hs
 · cases hs
def aLookupX (P : Program) (T : TypeId) (x k : Value) (c : Bool) (h : AH) : Option Value := match aLookup P T x k c h with
 | some v => some v
 | none => aLookupB P T x k c h
theorem sim_lookupX (r : R w0 φ h w) {T : TypeId} {x k x' k' v : Value} {c : Bool} (hs : aLookupX P T x k c h = some v) (hx : VR φ x x') (hk : VR φ k k') : SimV w0 P φ h w (Instr.lookup T x' k' c) v h := by
 unfold aLookupX at hs
 split at hs
 · rename_i v hv
   cases hs
   exact sim_lookup r hv hx hk
 · exact sim_lookupB r hs hx hk
def aUpdateX (P : Program) (T : TypeId) (x k v : Value) (h : AH) : Option AH := match aUpdate P T x k v h with
 | some h => some h
 | none => aUpdateB P T x k v h
theorem sim_updateX (r : R w0 φ h w) {T : TypeId} {x k v x' k' v' : Value} (hs : aUpdateX P T x k v h = some h') (hx : VR φ x x') (hk : VR φ k k') (hv : VR φ v v') :
   ∃ w', (Instr.mapUpdate T x' k' v').run P w = .ok () w' ∧ Nx φ φ h h' ∧ R w0 φ h' w' := by
 unfold aUpdateX at hs
 split at hs
 · rename_i h2 hh
   cases hs
   exact sim_update r hh hx hk hv
 · exact sim_updateB r hs hx hk hv
def aVal0 (P : Program) (n : Nat) (t : T Value) (h : AH) : Op → Option Value
 | .move x => aO n t x
 | .assign x => aO n t x
 | .pick c a b => match aO n t c with
  | some (.bool q) => aO n t (if q then a else b)
  | _ => none
 | .build T ⟨ps⟩ => match aPs n t ps with | some l => aBuild P T l | none => none
 | .load T x => match aO n t x with | some (.pointer (some a)) => aLoad P T a h | _ => none
 | .nilCheck x => match aO n t x with | some v => if nilOk v then some v else none | none => none
 | .binOp op T x y _ => match aO n t x, aO n t y with | some a, some b => aBin P op T x y a b h | _, _ => none
 | .unOp op _ x => match aO n t x with | some v => aUn P op v | none => none
 | .convert s d x => match aO n t x with | some v => aConv P s d v h | none => none
 | .makeInterface T x => match aO n t x with | some v => aMkI P T v | none => none
 | .makeFunc (.func f) ⟨l⟩ ⟨m⟩ => match aOs n t l, aOs n t m with | some a, some b => some (.func (.func f) ⟨a⟩ ⟨b⟩) | _, _ => none
 | .slice T x lo hi mx => match aO n t x, aOO n t lo, aOO n t hi, aOO n t mx with | some v, some a, some b, some c => aSl P T v a b c h | _, _, _, _ => none
 | .fieldAddr s x f => match aO n t x with | some (.pointer (some a)) => aField P s a f | _ => none
 | .field T x f => match aO n t x with | some v => aFieldV P T v f | none => none
 | .indexAddr T x i => match aO n t x, aO n t i with | some v, some j => aIndex P T v j | _, _ => none
 | .index T x i => match aO n t x, aO n t i with | some v, some j => aIndexV P T v j | _, _ => none
 | .lookup T x k c => match aO n t x, aO n t k with | some v, some j => aLookupX P T v j c h | _, _ => none
 | .typeAssert x _ T c => match aO n t x with | some v => aAssert P v T c | none => none
 | .extract x i => match aO n t x with | some v => aExtract v i | none => none
 | .entry it => match aO n t it with | some v => aEntryIt v h | none => none
 | .call ⟨.builtin .len, ⟨[x]⟩, ⟨[T]⟩⟩ => match aO n t x with | some v => aLen P T v h | none => none
 | .call ⟨.builtin .cap, ⟨[x]⟩, ⟨[T]⟩⟩ => match aO n t x with | some v => aCap P T v | none => none
 | _ => none
theorem amap {α β : Type} (f : α → β) (l : List α) : Array.map f ⟨l⟩ = ⟨l.map f⟩ := by apply Array.ext'; simp
theorem exec_builtin {ρ : Operand → Value} {o : Oper} {b : Builtin} {args : List Operand} {Ts : Array TypeId} (hop : o.op = .call ⟨.builtin b, ⟨args⟩, Ts⟩) :
  ∃ cs, execOp ρ o = builtin b Ts o.type cs ⟨args.map ρ⟩ := by
 refine ⟨Array.map (fun x : Operand => match x with | Operand.const _ => true | _ => false) ⟨args⟩, ?_⟩
 simp only [execOp, hop, resolve]
 rw [amap ρ args]
 rfl
theorem simN0 (r : R w0 φ h w) {a : Act} (f : FR φ n t a.tmps) {o : Oper} {v : Value} (hs : aVal0 P n t h o.op = some v) :
  ∃ nx w' φ', (execOp a.eval o).run P w = .ok nx w' ∧ Nx φ φ' h h ∧ R w0 φ' h w' ∧ NR φ' (.val v) nx := by
 have fin : ∀ {s : Sem Value}, SimV w0 P φ h w s v h → execOp a.eval o = (do pure (.value (← s))) → ∃ nx w' φ', (execOp a.eval o).run P w = .ok nx w' ∧ Nx φ φ' h h ∧ R w0 φ' h w' ∧ NR φ' (.val v) nx := by
  intro s hsv he
  obtain ⟨v', w', φ', h1, h2, h3, h4⟩ := hsv
  exact ⟨.value v', w', φ', by rw [he, Sem.run_bind, h1]; rfl, h2, h3, .val h4⟩
 cases hop : o.op with
 | move x =>
  rw [hop] at hs; simp only [aVal0] at hs
  exact fin (s := pure (a.eval x)) (.pure r (aO_ok f hs)) (by simp only [execOp, hop]; rfl)
 | assign x =>
  rw [hop] at hs; simp only [aVal0] at hs
  exact fin (s := pure (a.eval x)) (.pure r (aO_ok f hs)) (by simp only [execOp, hop]; rfl)
 | pick c x y =>
  rw [hop] at hs; simp only [aVal0] at hs
  split at hs
  · rename_i q hq
    have hc := (aO_ok f hq).bool_inv
    refine fin (s := pure (if q then a.eval x else a.eval y)) (.pure r ?_) ?_
    · have := aO_ok f hs
      cases q <;> exact this
    · simp only [execOp, hop, hc, asBool]; rfl
  · cases hs
 | build T parts =>
  obtain ⟨ps⟩ := parts
  rw [hop] at hs; simp only [aVal0] at hs
  split at hs
  · rename_i l hl
    have hmap : ((⟨ps⟩ : Array (Nat × Operand)).map fun (i, x) => (i, a.eval x)) = ⟨ps.map fun p => (p.1, a.eval p.2)⟩ := by
      apply Array.ext'; simp
    exact fin (sim_build r hs (aPs_ok f hl)) (by simp only [execOp, hop, hmap])
  · cases hs
 | load T x =>
  rw [hop] at hs; simp only [aVal0] at hs
  split at hs
  · rename_i ad hx
    exact fin (sim_load r hs (aO_ok f hx)) (by simp only [execOp, hop])
  · cases hs
 | nilCheck x =>
  rw [hop] at hs; simp only [aVal0] at hs
  split at hs
  · rename_i v0 hv
    split at hs
    · rename_i hk
      cases hs
      have hv' := aO_ok f hv
      refine fin (s := pure (a.eval x)) (.pure r hv') ?_
      simp only [execOp, hop]
      unfold nilOk at hk
      split at hk
      · obtain ⟨i, _, _, e⟩ := hv'.ptr_inv; rw [e]; rfl
      · generalize a.eval x = u at hv'; cases hv'; rfl
      · generalize a.eval x = u at hv'; cases hv' with
        | func hf => cases hf with | same hf => rfl
      · cases hk
    · cases hs
  · cases hs
 | binOp op T x y yT =>
  rw [hop] at hs; simp only [aVal0] at hs
  split at hs
  · rename_i va vb hx hy
    exact fin (sim_bin r hs (aO_ok f hx) (aO_ok f hy)) (by simp only [execOp, hop])
  · cases hs
 | unOp op T x =>
  rw [hop] at hs; simp only [aVal0] at hs
  split at hs
  · rename_i va hx
    exact fin (sim_un r hs (aO_ok f hx)) (by simp only [execOp, hop])
  · cases hs
 | convert s d x =>
  rw [hop] at hs; simp only [aVal0] at hs
  split at hs
  · rename_i va hx
    exact fin (sim_conv r hs (aO_ok f hx)) (by simp only [execOp, hop])
  · cases hs
 | makeInterface T x =>
  rw [hop] at hs; simp only [aVal0] at hs
  split at hs
  · rename_i va hx
    exact fin (sim_mkI r hs (aO_ok f hx)) (by simp only [execOp, hop])
  · cases hs
 | makeFunc fn l m =>
  obtain ⟨l⟩ := l
  obtain ⟨m⟩ := m
  rw [hop] at hs
  cases fn with
  | func k =>
    simp only [aVal0] at hs
    split at hs
    · rename_i va vb hx hy
      cases hs
      refine fin (s := pure (.func (.func k) ⟨l.map a.eval⟩ ⟨m.map a.eval⟩)) (.pure r (.func' (.same (fun l e => by cases e)) (aOs_ok f hx) (aOs_ok f hy))) ?_
      simp only [execOp, hop, Instr.makeFunc]
      simp
    · cases hs
  | _ => simp [aVal0] at hs
 | slice T x lo hi mx =>
  rw [hop] at hs; simp only [aVal0] at hs
  split at hs
  · rename_i va x1 x2 x3 hx h1 h2 h3
    exact fin (sim_sl r hs (aO_ok f hx) (aOO_ok f h1) (aOO_ok f h2) (aOO_ok f h3)) (by simp only [execOp, hop])
  · cases hs
 | fieldAddr s x k =>
  rw [hop] at hs; simp only [aVal0] at hs
  split at hs
  · rename_i ad hx
    exact fin (sim_field r hs (aO_ok f hx)) (by simp only [execOp, hop])
  · cases hs
 | field T x k =>
  rw [hop] at hs; simp only [aVal0] at hs
  split at hs
  · rename_i va hx
    exact fin (sim_fieldV r hs (aO_ok f hx)) (by simp only [execOp, hop])
  · cases hs
 | indexAddr T x i =>
  rw [hop] at hs; simp only [aVal0] at hs
  split at hs
  · rename_i va vb hx hy
    exact fin (sim_index r hs (aO_ok f hx) (aO_ok f hy)) (by simp only [execOp, hop])
  · cases hs
 | index T x i =>
  rw [hop] at hs; simp only [aVal0] at hs
  split at hs
  · rename_i va vb hx hy
    exact fin (sim_indexV r hs (aO_ok f hx) (aO_ok f hy)) (by simp only [execOp, hop])
  · cases hs
 | lookup T x k c =>
  rw [hop] at hs; simp only [aVal0] at hs
  split at hs
  · rename_i va vb hx hy
    exact fin (sim_lookupX r hs (aO_ok f hx) (aO_ok f hy)) (by simp only [execOp, hop])
  · cases hs
 | typeAssert x xT T c =>
  rw [hop] at hs; simp only [aVal0] at hs
  split at hs
  · rename_i va hx
    exact fin (sim_assert (xT := xT) r hs (aO_ok f hx)) (by simp only [execOp, hop])
  · cases hs
 | extract x i =>
  rw [hop] at hs; simp only [aVal0] at hs
  split at hs
  · rename_i va hx
    exact fin (sim_extract r hs (aO_ok f hx)) (by simp only [execOp, hop])
  · cases hs
 | entry it =>
  rw [hop] at hs; simp only [aVal0] at hs
  split at hs
  · rename_i va hx
    exact fin (sim_entryIt r hs (aO_ok f hx)) (by simp only [execOp, hop])
  · cases hs
 | call c =>
  rw [hop] at hs
  unfold aVal0 at hs
  split at hs
  all_goals first | (rename_i e; cases e; done) | skip
  · rename_i x T e
    cases e
    split at hs
    · rename_i va hx
      refine fin (s := Builtin.len_ #[T] o.type #[a.eval x]) (sim_len r hs (aO_ok f hx)) ?_
      obtain ⟨cs, hcs⟩ := exec_builtin (ρ := a.eval) hop
      rw [hcs]
      rfl
    · cases hs
  · rename_i x T e
    cases e
    split at hs
    · rename_i va hx
      refine fin (s := Builtin.cap_ #[T] o.type #[a.eval x]) (sim_cap r hs (aO_ok f hx)) ?_
      obtain ⟨cs, hcs⟩ := exec_builtin (ρ := a.eval) hop
      rw [hcs]
      rfl
    · cases hs
  · cases hs
 | _ => rw [hop] at hs; simp [aVal0] at hs
def onext (x : Option (List (Value × AH))) : Outs := match x with | some l => some (l.map fun p => (.val p.1, p.2)) | none => none
structure VB where
 f : Program → Nat → T Value → AH → Option Value
def kInt : BinOp → Option (Int → Int → Value)
 | .add => some fun a b => .int .i64 (IntKind.i64.wrap (a + b))
 | .sub => some fun a b => .int .i64 (IntKind.i64.wrap (a - b))
 | .lss => some fun a b => .bool (a < b)
 | .leq => some fun a b => .bool (a ≤ b)
 | .gtr => some fun a b => .bool (a > b)
 | .geq => some fun a b => .bool (a ≥ b)
 | .eql => some fun a b => .bool (a == b)
 | .neq => some fun a b => .bool (a != b)
 | _ => none
theorem kInt_ok {op : BinOp} {g : Int → Int → Value} (hg : kInt op = some g) (T : TypeId) (x y : Operand) (a b : Int) : aBin P op T x y (.int .i64 a) (.int .i64 b) h = some (g a b) := by
 cases op <;> first | (cases hg; rfl) | (cases hg)
def kVal : Op → VB
 | .move x => ⟨fun _ n t _ => aO n t x⟩
 | .assign x => ⟨fun _ n t _ => aO n t x⟩
 | .pick c a b => ⟨fun _ n t _ => match aO n t c with
  | some (.bool q) => aO n t (if q then a else b)
  | _ => none⟩
 | .build T ⟨ps⟩ => ⟨fun P n t _ => match aPs n t ps with | some l => aBuild P T l | none => none⟩
 | .load T x => ⟨fun P n t h => match aO n t x with | some (.pointer (some a)) => aLoad P T a h | _ => none⟩
 | .nilCheck x => ⟨fun _ n t _ => match aO n t x with | some v => if nilOk v then some v else none | none => none⟩
 | .binOp op T x y _ => match kInt op with
  | some g => ⟨fun P n t h => match aO n t x, aO n t y with | some (.int .i64 a), some (.int .i64 b) => some (g a b) | some a, some b => aBin P op T x y a b h | _, _ => none⟩
  | none => ⟨fun P n t h => match aO n t x, aO n t y with | some a, some b => aBin P op T x y a b h | _, _ => none⟩
 | .unOp op _ x => ⟨fun P n t _ => match aO n t x with | some v => aUn P op v | none => none⟩
 | .convert s d x => ⟨fun P n t h => match aO n t x with | some v => aConv P s d v h | none => none⟩
 | .makeInterface T x => ⟨fun P n t _ => match aO n t x with | some v => aMkI P T v | none => none⟩
 | .makeFunc (.func f) ⟨l⟩ ⟨m⟩ => ⟨fun _ n t _ => match aOs n t l, aOs n t m with | some a, some b => some (.func (.func f) ⟨a⟩ ⟨b⟩) | _, _ => none⟩
 | .slice T x lo hi mx => ⟨fun P n t h => match aO n t x, aOO n t lo, aOO n t hi, aOO n t mx with | some v, some a, some b, some c => aSl P T v a b c h | _, _, _, _ => none⟩
 | .fieldAddr s x f => ⟨fun P n t _ => match aO n t x with | some (.pointer (some a)) => aField P s a f | _ => none⟩
 | .field T x f => ⟨fun P n t _ => match aO n t x with | some v => aFieldV P T v f | none => none⟩
 | .indexAddr T x i => ⟨fun P n t _ => match aO n t x, aO n t i with | some v, some j => aIndex P T v j | _, _ => none⟩
 | .index T x i => ⟨fun P n t _ => match aO n t x, aO n t i with | some v, some j => aIndexV P T v j | _, _ => none⟩
 | .lookup T x k c => ⟨fun P n t h => match aO n t x, aO n t k with | some v, some j => aLookupX P T v j c h | _, _ => none⟩
 | .typeAssert x _ T c => ⟨fun P n t _ => match aO n t x with | some v => aAssert P v T c | none => none⟩
 | .extract x i => ⟨fun _ n t _ => match aO n t x with | some v => aExtract v i | none => none⟩
 | .entry it => ⟨fun _ n t h => match aO n t it with | some v => aEntryIt v h | none => none⟩
 | .call ⟨.builtin .len, ⟨[x]⟩, ⟨[T]⟩⟩ => ⟨fun P n t h => match aO n t x with | some v => aLen P T v h | none => none⟩
 | .call ⟨.builtin .cap, ⟨[x]⟩, ⟨[T]⟩⟩ => ⟨fun P n t _ => match aO n t x with | some v => aCap P T v | none => none⟩
 | _ => ⟨fun _ _ _ _ => none⟩
def aVal (P : Program) (n : Nat) (t : T Value) (h : AH) (o : Op) : Option Value := (kVal o).f P n t h
theorem aVal_eq (o : Op) : aVal P n t h o = aVal0 P n t h o := by
 cases o with
 | binOp op T x y yt =>
  unfold aVal kVal
  dsimp only
  cases hg : kInt op with
  | none => rfl
  | some g =>
   dsimp only
   simp only [aVal0]
   split
   · rename_i a b h1 h2
     rw [h1, h2]; exact (kInt_ok hg T x y a b).symm
   · rename_i a b _ h1 h2
     rw [h1, h2]
   · rename_i h0 h1
     split
     · rename_i a b h2 h3; exact (h1 _ _ h2 h3).elim
     · rfl
 | _ => unfold aVal kVal aVal0; first | rfl | (split <;> first | rfl | (exfalso; simp_all; done))
theorem simN (r : R w0 φ h w) {a : Act} (f : FR φ n t a.tmps) {o : Oper} {v : Value} (hs : aVal P n t h o.op = some v) :
 ∃ nx w' φ', (execOp a.eval o).run P w = .ok nx w' ∧ Nx φ φ' h h ∧ R w0 φ' h w' ∧ NR φ' (.val v) nx := simN0 r f (by rw [← aVal_eq]; exact hs)
def aAct0 (P : Program) (n : Nat) (t : T Value) (h : AH) : Op → Outs
 | .store T a x => match aO n t a, aO n t x with | some (.pointer (some p)), some v => osk (aStore P T p v h) | _, _ => none
 | .mapUpdate T m k x => match aO n t m, aO n t k, aO n t x with | some a, some b, some c => osk (aUpdateX P T a b c h) | _, _, _ => none
 | .insert T m k x => match aO n t m, aO n t k, aO n t x with | some a, some b, some c => osk (aUpdate P T a b c h) | _, _, _ => none
 | .mapEntry T m k => match aO n t m, aO n t k with | some a, some b => ovh (aEntry P T a b h) | _, _ => none
 | .entryStore T m s x => match aO n t m, aO n t s, aO n t x with | some a, some b, some c => osk (aEStore T a b c h) | _, _, _ => none
 | .range T x => match aO n t x with | some v => ovh (aRange P T v h) | none => none
 | .next it isS => match aO n t it with | some v => onext (aNext v isS h) | none => none
 | .convert s d x => match aO n t x with | some v => aS2B P s d v h | none => none
 | .call ⟨.builtin b, ⟨args⟩, ⟨Ts⟩⟩ => match aOs n t args with | some vs => aBuiltin P b Ts vs h | none => none
 | _ => none
theorem simA0 (r : R w0 φ h w) {a : Act} (f : FR φ n t a.tmps) {o : Oper} {l : List (AN × AH)} (hs : aAct0 P n t h o.op = some l) : Sim w0 P φ h w (execOp a.eval o) l := by
 cases hop : o.op with
 | store T x y =>
  rw [hop] at hs; simp only [aAct0] at hs
  split at hs
  · rename_i p v hx hy
    have he : execOp a.eval o = (do Instr.storeAt T (a.eval x) (a.eval y); pure .skip) := by simp only [execOp, hop]
    rw [he]
    exact .osk hs (fun h' hh => sim_store r hh (aO_ok f hx) (aO_ok f hy))
  · cases hs
 | convert s d x =>
  rw [hop] at hs; simp only [aAct0] at hs
  split at hs
  · rename_i va hx
    have he : execOp a.eval o = (do pure (.value (← convert s d (a.eval x)))) := by simp only [execOp, hop]
    rw [he]
    exact sim_s2b r hs (aO_ok f hx)
  · cases hs
 | mapUpdate T m k x =>
  rw [hop] at hs; simp only [aAct0] at hs
  split at hs
  · rename_i va vb vc h1 h2 h3
    have he : execOp a.eval o = (do Instr.mapUpdate T (a.eval m) (a.eval k) (a.eval x); pure .skip) := by simp only [execOp, hop]
    rw [he]
    exact .osk hs (fun h' hh => sim_updateX r hh (aO_ok f h1) (aO_ok f h2) (aO_ok f h3))
  · cases hs
 | insert T m k x =>
  rw [hop] at hs; simp only [aAct0] at hs
  split at hs
  · rename_i va vb vc h1 h2 h3
    have he : execOp a.eval o = (do Instr.mapUpdate T (a.eval m) (a.eval k) (a.eval x); pure .skip) := by simp only [execOp, hop]
    rw [he]
    exact .osk hs (fun h' hh => sim_update r hh (aO_ok f h1) (aO_ok f h2) (aO_ok f h3))
  · cases hs
 | mapEntry T m k =>
  rw [hop] at hs; simp only [aAct0] at hs
  split at hs
  · rename_i va vb h1 h2
    have he : execOp a.eval o = (do pure (.value (← Instr.mapEntry T (a.eval m) (a.eval k)))) := by simp only [execOp, hop]
    rw [he]
    exact .ovh hs (fun v h' hh => sim_entry r hh (aO_ok f h1) (aO_ok f h2))
  · cases hs
 | entryStore T m s x =>
  rw [hop] at hs; simp only [aAct0] at hs
  split at hs
  · rename_i va vb vc h1 h2 h3
    have he : execOp a.eval o = (do Instr.entryStore T (a.eval m) (a.eval s) (a.eval x); pure .skip) := by simp only [execOp, hop]
    rw [he]
    exact .osk hs (fun h' hh => sim_estore r hh (aO_ok f h1) (aO_ok f h2) (aO_ok f h3))
  · cases hs
 | range T x =>
  rw [hop] at hs; simp only [aAct0] at hs
  split at hs
  · rename_i va h1
    have he : execOp a.eval o = (do pure (.value (← Instr.range T (a.eval x)))) := by simp only [execOp, hop]
    rw [he]
    exact .ovh hs (fun v h' hh => sim_range r hh (aO_ok f h1))
  · cases hs
 | next it isS =>
  rw [hop] at hs; simp only [aAct0] at hs
  split at hs
  · rename_i va h1
    have he : execOp a.eval o = (do pure (.value (← Instr.next (a.eval it) isS o.type))) := by simp only [execOp, hop]
    rw [he]
    unfold onext at hs
    split at hs
    · rename_i m hm
      cases hs
      obtain ⟨v, h', hmem, hsv⟩ := sim_next (ty := o.type) r hm (aO_ok f h1)
      exact .ofV hsv (List.mem_map.2 ⟨_, hmem, rfl⟩)
    · cases hs
  · cases hs
 | call c =>
  rw [hop] at hs
  obtain ⟨callee, args, Ts⟩ := c
  obtain ⟨args⟩ := args
  obtain ⟨Ts⟩ := Ts
  cases callee with
  | builtin b =>
    simp only [aAct0] at hs
    split at hs
    · rename_i vs hvs
      obtain ⟨cs, hcs⟩ := exec_builtin (ρ := a.eval) hop
      rw [hcs]
      exact sim_builtin r hs (aOs_ok f hvs)
    · cases hs
  | _ => simp [aAct0] at hs
 | _ => rw [hop] at hs; simp [aAct0] at hs
structure AB where
 f : Program → Nat → T Value → AH → Outs
def kAct : Op → AB
 | .store T a x => ⟨fun P n t h => match aO n t a, aO n t x with | some (.pointer (some p)), some v => osk (aStore P T p v h) | _, _ => none⟩
 | .mapUpdate T m k x => ⟨fun P n t h => match aO n t m, aO n t k, aO n t x with | some a, some b, some c => osk (aUpdateX P T a b c h) | _, _, _ => none⟩
 | .insert T m k x => ⟨fun P n t h => match aO n t m, aO n t k, aO n t x with | some a, some b, some c => osk (aUpdate P T a b c h) | _, _, _ => none⟩
 | .mapEntry T m k => ⟨fun P n t h => match aO n t m, aO n t k with | some a, some b => ovh (aEntry P T a b h) | _, _ => none⟩
 | .entryStore T m s x => ⟨fun _ n t h => match aO n t m, aO n t s, aO n t x with | some a, some b, some c => osk (aEStore T a b c h) | _, _, _ => none⟩
 | .range T x => ⟨fun P n t h => match aO n t x with | some v => ovh (aRange P T v h) | none => none⟩
 | .next it isS => ⟨fun _ n t h => match aO n t it with | some v => onext (aNext v isS h) | none => none⟩
 | .convert s d x => ⟨fun P n t h => match aO n t x with | some v => aS2B P s d v h | none => none⟩
 | .call ⟨.builtin b, ⟨args⟩, ⟨Ts⟩⟩ => ⟨fun P n t h => match aOs n t args with | some vs => aBuiltin P b Ts vs h | none => none⟩
 | _ => ⟨fun _ _ _ _ => none⟩
def aAct (P : Program) (n : Nat) (t : T Value) (h : AH) (o : Op) : Outs := (kAct o).f P n t h
theorem aAct_eq (o : Op) : aAct P n t h o = aAct0 P n t h o := by
 unfold aAct kAct aAct0
 split <;> rfl
theorem simA (r : R w0 φ h w) {a : Act} (f : FR φ n t a.tmps) {o : Oper} {l : List (AN × AH)} (hs : aAct P n t h o.op = some l) : Sim w0 P φ h w (execOp a.eval o) l := simA0 r f (by rw [← aAct_eq]; exact hs)
end
end Go.X
namespace Go.X
noncomputable section
open Go Go.RowKit
variable {w0 w w' : World} {φ φ' : Phi} {h h' : AH} {P : Program} {n : Nat} {t : T Value}
def joinL {β : Type} (x y : Option (List β)) : Option (List β) := match x, y with
 | some m, some k => some (m ++ k)
 | _, _ => none
def bindL.go {α β : Type} (f : α → Option (List β)) (l : List α) : Option (List β) := List.rec (motive := fun _ => Option (List β)) (some [])
 (fun a l ih => List.rec (motive := fun _ => Option (List β)) (f a) (fun _ _ _ => joinL (f a) ih) l) l
def bindL {α β : Type} (x : Option (List α)) (f : α → Option (List β)) : Option (List β) := Option.rec (motive := fun _ => Option (List β)) none (fun l => bindL.go f l) x
theorem bindL_go {α β : Type} {f : α → Option (List β)} : ∀ {l : List α} {m : List β}, bindL.go f l = some m → ∀ a, a ∈ l → ∃ k, f a = some k ∧ ∀ b, b ∈ k → b ∈ m
 | [], m, _, a, ha => by simp at ha
 | [x], m, h, a, ha => by
  simp at ha; subst ha
  exact ⟨m, h, fun b hb => hb⟩
 | x :: y :: l, m, h, a, ha => by
  have h : joinL (f x) (bindL.go f (y :: l)) = some m := h
  unfold joinL at h
  split at h
  · rename_i m1 k1 h1 h2
    cases h
    rcases List.mem_cons.1 ha with e | e
    · subst e; exact ⟨m1, h1, fun b hb => List.mem_append_left _ hb⟩
    · obtain ⟨k, h3, h4⟩ := bindL_go h2 a e
      exact ⟨k, h3, fun b hb => List.mem_append_right _ (h4 b hb)⟩
  · cases h
theorem bindL_spec {α β : Type} {x : Option (List α)} {f : α → Option (List β)} {m : List β} (h : bindL x f = some m) : ∃ l, x = some l ∧ ∀ a, a ∈ l → ∃ k, f a = some k ∧ ∀ b, b ∈ k → b ∈ m := by
 cases x with
 | none => cases h
 | some l => exact ⟨l, rfl, bindL_go h⟩
def aCallF (P : Program) (f : FuncId) (args : List Value) (h : AH) : Outs := match P.funcs[f]? with
 | some fn => (match fn.body with
  | some _ => some [(.enter f args, h)]
  | none => none)
 | none => none
def NoCount (P : Program) : Prop := ∀ (f : FuncId) (fn : Func), P.funcs[f]? = some fn → fn.body.isSome = true → (fn.name == "runtime.NumGoroutine") = false
theorem run_callF (hN : NoCount P) {f : FuncId} {args args' : List Value} {l : List (AN × AH)} (hs : aCallF P f args h = some l) (w : World) : l = [(.enter f args, h)] ∧ (callFunc f ⟨args'⟩).run P w = .ok (.enter f ⟨args'⟩) w := by
 unfold aCallF at hs
 split at hs
 · rename_i fn hf
   split at hs
   · rename_i c hb
     cases hs
     refine ⟨rfl, ?_⟩
     have := hN f fn hf (by rw [hb]; rfl)
     have this : fn.name ≠ "runtime.NumGoroutine" := by simpa using this
     simp [callFunc, hf, this, hb]
   · cases hs
 · cases hs
def aExt (P : Program) (f : FuncId) (args : List Value) (h : AH) : Outs := match P.funcs[f]? with
 | some fn => (match fn.body with
  | some _ => none
  | none => (match args with
   | [.int .u64 (.ofNat x), .int .u64 (.ofNat y), .int .u64 (.ofNat c)] => (match Nat.ble c 1 && fn.origin == "" with
    | true => (match fn.name == "math/bits.Add64" with
     | true => some [(.val (.tuple #[.int .u64 (.ofNat ((x + y + c) % 18446744073709551616)), .int .u64 (.ofNat ((x + y + c) / 18446744073709551616))]), h)]
     | false => (match fn.name == "math/bits.Sub64" with
      | true => some [(.val (.tuple #[.int .u64 (.ofNat ((x + 18446744073709551616 - y - c) % 18446744073709551616)), .int .u64 (.ofNat (if x < y + c then 1 else 0))]), h)]
      | false => none))
    | false => none)
   | _ => none))
 | none => none
def sub64E : Array Value → Sem Value := fun args => do
 let (x, y, b) ← Extern.MathBitsCarry.three "Sub64" args
 pure (Extern.MathBitsCarry.pair ((x + Extern.MathBitsCarry.m64 - y - b) % Extern.MathBitsCarry.m64) (if x < y + b then 1 else 0))
theorem run_sub64E (x y b : Nat) (hb : b ≤ 1) (w : World) : (sub64E #[.int .u64 (.ofNat x), .int .u64 (.ofNat y), .int .u64 (.ofNat b)]).run P w =
  .ok (.tuple #[.int .u64 (.ofNat ((x + 18446744073709551616 - y - b) % 18446744073709551616)), .int .u64 (.ofNat (if x < y + b then 1 else 0))]) w := by
 have : b = 0 ∨ b = 1 := by omega
 rcases this with rfl | rfl <;> rfl
theorem run_add64E (x y b : Nat) (hb : b ≤ 1) (w : World) : (add64Entry #[.int .u64 (.ofNat x), .int .u64 (.ofNat y), .int .u64 (.ofNat b)]).run P w =
  .ok (.tuple #[.int .u64 (.ofNat ((x + y + b) % 18446744073709551616)), .int .u64 (.ofNat ((x + y + b) / 18446744073709551616))]) w := by
 have : b = 0 ∨ b = 1 := by omega
 rcases this with rfl | rfl <;> rfl
theorem noNext_of {fn : Func} {nm : String} (hn : fn.name = nm) (ho : fn.origin = "") (h1 : (Extern.allNextRows.lookup nm).isNone = true) (h2 : (Extern.allNextRows.lookup "").isNone = true) : Extern.findNext fn = none := by
 unfold Extern.findNext
 rw [Option.isNone_iff_eq_none] at h1 h2
 simp only [hn, ho, h1, h2]
 rfl
theorem find_of {fn : Func} {nm : String} {e : Array Value → Sem Value} (hn : fn.name = nm) (h1 : (Extern.allGenericRows.lookup nm).isNone = true) (h2 : (Extern.allTypedRows.lookup nm).isNone = true) (h3 : Extern.allRows.lookup nm = some e) : Extern.find fn = some e := by
 unfold Extern.find
 rw [Option.isNone_iff_eq_none] at h1 h2
 simp only [hn, h1, h2, h3]
 rfl
theorem run_ext {f : FuncId} {args args' : List Value} {l : List (AN × AH)} (hs : aExt P f args h = some l) (ha : LR φ args args') (w : World) : ∃ v v', l = [(.val v, h)] ∧ (callFunc f ⟨args'⟩).run P w = .ok (.value v') w ∧ VR φ v v' := by
 unfold aExt at hs
 split at hs
 · rename_i fn hf
   split at hs
   · cases hs
   · rename_i hb
     split at hs
     · rename_i x y c
       have e : args' = [.int .u64 (.ofNat x), .int .u64 (.ofNat y), .int .u64 (.ofNat c)] := by
         cases ha with
         | cons a1 t1 => cases t1 with
           | cons a2 t2 => cases t2 with
             | cons a3 t3 => cases t3; cases a1; cases a2; cases a3; rfl
       subst e
       split at hs
       · rename_i hc
         rw [Bool.and_eq_true] at hc
         have hc1 := Nat.le_of_ble_eq_true hc.1
         have ho : fn.origin = "" := eq_of_beq hc.2
         split at hs
         · rename_i hn
           have hn : fn.name = "math/bits.Add64" := eq_of_beq hn
           cases hs
           refine ⟨_, _, rfl, ?_, pfv_refl φ rfl⟩
           rw [run_callFunc_extern hf (by rw [hn]; decide +kernel) (by rw [hb]; rfl) (noNext_of hn ho (by kernel_rfl) (by kernel_rfl)) (find_of (e := add64Entry) hn (by kernel_rfl) (by kernel_rfl) (by kernel_rfl))]
           show ((add64Entry #[.int .u64 (.ofNat x), .int .u64 (.ofNat y), .int .u64 (.ofNat c)]).run P w).andThen _ = _
           rw [run_add64E x y c hc1]
           rfl
         · split at hs
           · rename_i hn
             have hn : fn.name = "math/bits.Sub64" := eq_of_beq hn
             cases hs
             refine ⟨_, _, rfl, ?_, pfv_refl φ rfl⟩
             rw [run_callFunc_extern hf (by rw [hn]; decide +kernel) (by rw [hb]; rfl) (noNext_of hn ho (by kernel_rfl) (by kernel_rfl)) (find_of (e := sub64E) hn (by kernel_rfl) (by kernel_rfl) (by kernel_rfl))]
             show ((sub64E #[.int .u64 (.ofNat x), .int .u64 (.ofNat y), .int .u64 (.ofNat c)]).run P w).andThen _ = _
             rw [run_sub64E x y c hc1]
             rfl
           · cases hs
       · cases hs
     · cases hs
 · cases hs
def aSame (P : Program) (f : FuncId) (args : List Value) (h : AH) : Outs := match P.funcs[f]? with
 | some fn => (match fn.body with
  | some _ => none
  | none => (match args with
   | [x] => (match fn.origin == "" && fn.name == "internal/abi.NoEscape" with
    | true => some [(.val x, h)]
    | false => (match x with
     | .float .f64 b => (match fn.origin == "" && fn.name == "math.Float64bits" with
      | true => some [(.val (.int .u64 (b : Nat)), h)]
      | false => none)
     | _ => none))
   | _ => none))
 | none => none
theorem run_same {f : FuncId} {args args' : List Value} {l : List (AN × AH)} (hs : aSame P f args h = some l) (ha : LR φ args args') (w : World) : ∃ v v', l = [(.val v, h)] ∧ (callFunc f ⟨args'⟩).run P w = .ok (.value v') w ∧ VR φ v v' := by
 unfold aSame at hs
 split at hs
 · rename_i fn hf
   split at hs
   · cases hs
   · rename_i hb
     split at hs
     · rename_i x
       obtain ⟨x', rfl, hx⟩ := ha.one_inv
       split at hs
       · rename_i hc
         rw [Bool.and_eq_true] at hc
         have ho : fn.origin = "" := eq_of_beq hc.1
         have hn : fn.name = "internal/abi.NoEscape" := eq_of_beq hc.2
         cases hs
         refine ⟨_, _, rfl, ?_, hx⟩
         rw [run_callFunc_extern hf (by rw [hn]; decide +kernel) (by rw [hb]; rfl) (noNext_of hn ho (by kernel_rfl) (by kernel_rfl)) (find_of (e := Extern.AbiNoEscape.same) hn (by kernel_rfl) (by kernel_rfl) (by kernel_rfl))]
         show ((Extern.AbiNoEscape.same #[x']).run P w).andThen _ = _
         rw [Lib.run_noEscape w x']
         rfl
       · split at hs
         · rename_i b
           split at hs
           · rename_i hc
             rw [Bool.and_eq_true] at hc
             have ho : fn.origin = "" := eq_of_beq hc.1
             have hn : fn.name = "math.Float64bits" := eq_of_beq hc.2
             cases hs
             have e := pfv_same (v := .float .f64 b) rfl hx
             subst e
             refine ⟨_, _, rfl, ?_, pfv_refl φ rfl⟩
             rw [run_callFunc_extern hf (by rw [hn]; decide +kernel) (by rw [hb]; rfl) (noNext_of hn ho (by kernel_rfl) (by kernel_rfl)) (find_of (e := Extern.MathFloatBits.float64bits) hn (by kernel_rfl) (by kernel_rfl) (by kernel_rfl))]
             rfl
           · cases hs
         · cases hs
     · cases hs
 · cases hs
def aCallX (P : Program) (f : FuncId) (args : List Value) (h : AH) : Outs := match aCallF P f args h with
 | some l => some l
 | none => (match aExt P f args h with
  | some l => some l
  | none => aSame P f args h)
def setAll : T Value → List Tmp → List Value → T Value
 | t, p :: ps, v :: vs => setAll (t.set p (some v)) ps vs
 | t, _, _ => t
theorem FR.set {a : Array Value} (f : FR φ n t a) {d : Nat} (hd : d < n) {v v' : Value} (hv : VR φ v v') : FR φ n (t.set d (some v)) (a.setIfInBounds d v') := by
 refine ⟨by simp [f.size], f.lt, fun k u hk => ?_⟩
 rw [T.get_set]
 rw [Array.getElem?_setIfInBounds] at hk
 by_cases e : d = k
 · subst e
   rw [if_pos rfl, if_pos (by rw [f.size]; exact hd)] at hk
   cases hk
   rw [if_pos rfl]; exact hv
 · rw [if_neg e] at hk
   rw [if_neg (fun x => e x.symm)]
   exact f.get k u hk
theorem FR.setAll : ∀ {ps : List Tmp} {vs vs' : List Value} {t : T Value} {a : Array Value}, FR φ n t a → ps.all (fun p => decide (p < n)) = true → LR φ vs vs' →
  FR φ n (setAll t ps vs) ((ps.zip vs').foldl (fun tmps p => tmps.setIfInBounds p.1 p.2) a)
 | [], vs, vs', t, a, f, _, _ => by simpa [X.setAll] using f
 | p :: ps, [], vs', t, a, f, _, hv => by cases hv; simpa [X.setAll] using f
 | p :: ps, v :: vs, vs', t, a, f, hp, hv => by
  cases hv with
  | cons h1 h2 =>
   simp only [List.all_cons, Bool.and_eq_true, decide_eq_true_eq] at hp
   simp only [X.setAll, List.zip_cons_cons, List.foldl_cons]
   exact FR.setAll (f.set hp.1 h1) hp.2 h2
def aInvoke (P : Program) (fn : Fn) (cap args : List Value) (h : AH) : Outs := match fn with
 | .func f => aCallX P f (args ++ cap) h
 | .yield l => (match h.m.get l with
  | some (.loop _ _ ts sz ps asg body) => if args.length = ps.length ∧ ps.all (fun p => decide (p < sz)) = true then some [(.round l (setAll ts ps args) sz asg body, h)] else none
  | _ => none)
 | _ => none
theorem run_invoke (hN : NoCount P) (r : R w0 φ h w) {fn fn' : Fn} {cap cap' args args' : List Value} {l : List (AN × AH)} (hs : aInvoke P fn cap args h = some l) (hf : FnR φ fn fn') (hc : LR φ cap cap') (ha : LR φ args args') :
   ∃ an nx, l = [(an, h)] ∧ (invoke (.fn fn' ⟨cap'⟩) ⟨args'⟩).run P w = .ok nx w ∧ NR φ an nx := by
 unfold aInvoke at hs
 split at hs
 · rename_i k
   cases hf
   have hinv : (invoke (.fn (.func k) ⟨cap'⟩) ⟨args'⟩).run P w = (callFunc k ⟨args' ++ cap'⟩).run P w := by
     simp only [invoke]
     have : (⟨args'⟩ ++ ⟨cap'⟩ : Array Value) = ⟨args' ++ cap'⟩ := by apply Array.ext'; simp
     rw [this]
   unfold aCallX at hs
   split at hs
   · rename_i l' hl'
     cases hs
     obtain ⟨h1, h2⟩ := run_callF (args' := args' ++ cap') hN hl' w
     exact ⟨_, _, h1, by rw [hinv]; exact h2, .enter (ha.append hc)⟩
   · split at hs
     · rename_i l' hl'
       cases hs
       obtain ⟨v, v', h1, h2, h3⟩ := run_ext hl' (ha.append hc) w
       exact ⟨_, _, h1, by rw [hinv]; exact h2, .val h3⟩
     · obtain ⟨v, v', h1, h2, h3⟩ := run_same hs (ha.append hc) w
       exact ⟨_, _, h1, by rw [hinv]; exact h2, .val h3⟩
 · rename_i b
   cases hf with
   | same hf => exact (hf _ rfl).elim
   | yield i hi =>
     split at hs
     · rename_i st pend ts sz ps asg body ho
       split at hs
       · rename_i hl
         cases hs
         obtain ⟨fn0, arr, df, hw, hfr⟩ := r.dom _ _ _ hi ho
         have hsz : (⟨args'⟩ : Array Value).size = (⟨ps⟩ : Array Tmp).size := by simp [← ha.length, hl.1]
         have := run_yield (P := P) (args := ⟨args'⟩) hw hsz
         refine ⟨_, _, rfl, by simp only [invoke]; exact this, .round hi ?_⟩
         have := FR.setAll hfr hl.2 ha
         have e : (((⟨ps⟩ : Array Tmp).zip ⟨args'⟩).foldl (fun tmps (x : Tmp × Value) => tmps.setIfInBounds x.1 x.2) arr) = ((ps.zip args').foldl (fun tmps p => tmps.setIfInBounds p.1 p.2) arr) := by
          rw [← Array.foldl_toList, Array.toList_zip]
         rw [← e] at this
         exact this
       · cases hs
     · cases hs
 · cases hs
def aMethod (P : Program) (ty : TypeId) (v : Value) (name : String) : Option (FuncId × Value) := match P.info? ty with
 | some i => (match i.methods.find? (·.name == name) with
  | some m => if m.path.isEmpty then (match m.func, P.underlying ty with
   | some (f, true), some (.pointer _) => some (f, v)
   | some (_, false), some (.pointer _) => none
   | some (f, false), some _ => some (f, v)
   | _, _ => none) else none
  | none => none)
 | none => none
theorem run_method {ty : TypeId} {v v' : Value} {name : String} {f : FuncId} {u : Value} (hs : aMethod P ty v name = some (f, u)) (k : Nat) (w : World) : u = v ∧ (method (k + 1) ty v' name).run P w = .ok (f, v') w := by
 unfold aMethod at hs
 split at hs
 · rename_i i hi
   split at hs
   · rename_i m hm
     split at hs
     · rename_i hp
       have hpath : m.path.toList = [] := by
         have : m.path.size = 0 := by rw [Array.isEmpty_iff_size_eq_zero] at hp; exact hp
         exact List.eq_nil_of_length_eq_zero (by rw [Array.length_toList]; exact this)
       split at hs
       · rename_i f' el hfu hu
         cases hs
         refine ⟨rfl, ?_⟩
         simp only [method, Sem.run_bind, rI hi, Result.andThen_ok, hm, hpath, follow, Sem.run_pure, hfu, receiverAt, run_underlying hu, Place.get]
       · cases hs
       · rename_i f' d hd hfu hu
         cases hs
         refine ⟨rfl, ?_⟩
         cases d <;> first | exact (hd _ rfl).elim | simp only [method, Sem.run_bind, rI hi, Result.andThen_ok, hm, hpath, follow, Sem.run_pure, hfu, receiverAt, run_underlying hu, Place.get]
       · cases hs
     · cases hs
   · cases hs
 · cases hs
def aCallO (P : Program) (n : Nat) (t : T Value) (h : AH) : Op → Outs
 | .call ⟨.value f, ⟨args⟩, _⟩ => match aO n t f, aOs n t args with
  | some (.func fn ⟨first⟩ ⟨cap⟩), some vs => aInvoke P fn cap (first ++ vs) h
  | _, _ => none
 | .call ⟨.invoke recv name, ⟨args⟩, _⟩ => match aO n t recv, aOs n t args with
  | some (.iface ty v), some vs => (match aMethod P ty v name with
   | some (f, _) => aCallF P f (v :: vs) h
   | none => none)
  | _, _ => none
 | _ => none
theorem simC (hN : NoCount P) (r : R w0 φ h w) {a : Act} (f : FR φ n t a.tmps) {o : Oper} {l : List (AN × AH)} (hs : aCallO P n t h o.op = some l) : Sim w0 P φ h w (execOp a.eval o) l := by
 cases hop : o.op with
 | call c =>
  rw [hop] at hs
  obtain ⟨callee, args, Ts⟩ := c
  obtain ⟨args⟩ := args
  cases callee with
  | value fv =>
   simp only [aCallO] at hs
   split at hs
   · rename_i fn first cap vs hfv hvs
     have h1 := aO_ok f hfv
     have h2 := aOs_ok f hvs
     generalize hev : a.eval fv = u at h1
     cases h1 with
     | @func _ fn' _ _ first' cap' hfn ha hb h3 h4 =>
      obtain ⟨an, nx, rfl, hrun, hnr⟩ := run_invoke hN r hs hfn (LR.of hb h4) ((LR.of ha h3).append h2)
      refine ⟨an, h, List.mem_singleton.2 rfl, nx, w, φ, ?_, .refl φ h, r, hnr⟩
      have e1 : (⟨first'⟩ ++ ⟨args.map a.eval⟩ : Array Value) = ⟨first' ++ args.map a.eval⟩ := by apply Array.ext'; simp
      simp only [execOp, hop, resolve, hev, Deferred.ofValue, Sem.run_bind, Sem.run_pure, Result.andThen_ok, amap, e1]
      exact hrun
   · cases hs
  | invoke recv name =>
   simp only [aCallO] at hs
   split at hs
   · rename_i ty v vs hrv hvs
     have h1 := aO_ok f hrv
     have h2 := aOs_ok f hvs
     generalize hev : a.eval recv = u at h1
     cases h1 with
     | @iface _ _ v' h1 =>
      split at hs
      · rename_i f' u hm
        obtain ⟨rfl, hmr⟩ := run_method (v' := v') hm (P.types.size + Made.depth - 1) w
        obtain ⟨h5, h6⟩ := run_callF (args' := v' :: args.map a.eval) hN hs w
        subst h5
        refine ⟨_, h, List.mem_singleton.2 rfl, .enter f' ⟨v' :: args.map a.eval⟩, w, φ, ?_, .refl φ h, r, .enter (.cons h1 h2)⟩
        have e0 : P.types.size + Made.depth - 1 + 1 = P.types.size + Made.depth := by
         have : 0 < Made.depth := by decide
         omega
        rw [e0] at hmr
        have e1 : (#[Value.iface ty v'] ++ ⟨args.map a.eval⟩ : Array Value) = ⟨Value.iface ty v' :: args.map a.eval⟩ := by apply Array.ext'; simp
        have e2 : (⟨Value.iface ty v' :: args.map a.eval⟩ : Array Value).extract 1 (⟨Value.iface ty v' :: args.map a.eval⟩ : Array Value).size = ⟨args.map a.eval⟩ := by
         apply Array.ext'; simp
         exact List.take_of_length_le (by simp)
        have e3 : (#[v'] ++ ⟨args.map a.eval⟩ : Array Value) = ⟨v' :: args.map a.eval⟩ := by apply Array.ext'; simp
        simp only [execOp, hop, resolve, hev, Sem.run_bind, Sem.run_pure, Result.andThen_ok, amap, e1, invoke]
        have e4 : (⟨Value.iface ty v' :: args.map a.eval⟩ : Array Value)[0]? = some (Value.iface ty v') := by simp
        simp only [e4, e2, callMethod, Sem.run_bind, program]
        show ((Sem.run P (Sem.program Sem.pure) w).andThen _) = _
        simp only [Sem.run, Result.andThen_ok, hmr, e3]
        exact h6
      · cases hs
   · cases hs
  | builtin b => simp [aCallO] at hs
 | _ => rw [hop] at hs; simp [aCallO] at hs
def kOp : Op → Nat
 | .alloc _ | .box _ _ | .buildSlice _ _ _ | .makeSlice _ _ _ | .makeMap _ _ => 0
 | .store _ _ _ | .mapUpdate _ _ _ _ | .insert _ _ _ _ | .mapEntry _ _ _ | .entryStore _ _ _ _ | .range _ _ | .next _ _ => 2
 | .call ⟨.value _, _, _⟩ | .call ⟨.invoke _ _, _, _⟩ => 3
 | .call _ | .convert _ _ _ => 4
 | _ => 1
def aOp (P : Program) (n : Nat) (t : T Value) (h : AH) (o : Op) : Outs := match kOp o with
 | 0 => (match aAl P n t o with
  | some p => aNew (some p) h
  | none => none)
 | 1 => (match aVal P n t h o with
  | some v => some [(.val v, h)]
  | none => none)
 | 2 => aAct P n t h o
 | 3 => aCallO P n t h o
 | _ => (match aVal P n t h o with
  | some v => some [(.val v, h)]
  | none => aAct P n t h o)
theorem R.newAl (r : R w0 φ h w) {al : Al} {mk : Mk} {x : Obj} {b : Nat} (hs : h.newAl al = some (b, h')) (hk : al.ok mk = true) (ha : AlR φ al x) :
   ∃ φ', Nx φ φ' h h' ∧ φ' b = some (al.im w.heap.size) ∧ R w0 φ' h' (w.alloc x) := by
 unfold AH.newAl at hs
 split at hs
 · rename_i hn
   cases hs
   have hc : (al.im w.heap.size).c = w.heap.size := by cases al <;> rfl
   obtain ⟨φ', le, h1, h2, h3⟩ := r.new (i := al.im w.heap.size) (o := al.obj) (x := x) hc trivial (fun φ' w' le hw => AlR.or hk ha le (by rw [← hc]; exact hw))
   exact ⟨φ', .new le h3 trivial, h1, h2⟩
 · cases hs
theorem sim_op (hN : NoCount P) (r : R w0 φ h w) {a : Act} (f : FR φ n t a.tmps) {o : Oper} {l : List (AN × AH)} (hs : aOp P n t h o.op = some l) : Sim w0 P φ h w (execOp a.eval o) l := by
 have hal : ∀ {l : List (AN × AH)}, (match aAl P n t o.op with | some p => aNew (some p) h | none => none) = some l → Sim w0 P φ h w (execOp a.eval o) l := by
   intro l hs
   split at hs
   · rename_i p hp
     obtain ⟨al, mk⟩ := p
     obtain ⟨hk, x, hx, hrun⟩ := al_run f hp
     unfold aNew at hs
     dsimp only at hs
     split at hs
     · rename_i b h1 hn
       cases hs
       obtain ⟨φ', nx, hb, r'⟩ := r.newAl hn hk hx
       exact ⟨_, _, List.mem_singleton.2 rfl, _, _, φ', hrun w, nx, r', .val (Mk.rel hk hb)⟩
     · cases hs
   · cases hs
 have hvl : ∀ {v : Value}, aVal P n t h o.op = some v → Sim w0 P φ h w (execOp a.eval o) [(.val v, h)] := by
   intro v hv
   obtain ⟨nx, w', φ', h1, h2, h3, h4⟩ := simN r f hv
   exact ⟨_, _, List.mem_singleton.2 rfl, nx, w', φ', h1, h2, h3, h4⟩
 unfold aOp at hs
 split at hs
 · exact hal hs
 · split at hs
   · rename_i v hv
     cases hs; exact hvl hv
   · cases hs
 · exact simA r f hs
 · exact simC hN r f hs
 · split at hs
   · rename_i v hv
     cases hs; exact hvl hv
   · exact simA r f hs
theorem aOp_defer {c : Call} {l : List (AN × AH)} (hs : aOp P n t h (.defer c) = some l) : False := by
 simp [aOp, kOp, aVal_eq, aVal0] at hs
end
end Go.X
namespace Go.X
noncomputable section
open Go Go.RowKit
variable {w0 w w' : World} {φ φ' : Phi} {h h' : AH} {P : Program} {n : Nat} {t : T Value}
def FW : Option Nat → Fence
 | none => Fence.wide
 | some l => Fence.wide.inRound l
theorem FW_fn (q : Option Nat) (f : FuncId) : (FW q).fn f := by cases q <;> trivial
theorem FW_depth (q : Option Nat) : (FW q).depth = none := by cases q <;> rfl
theorem FW_round (q : Option Nat) : (FW q).round = q := by cases q <;> rfl
theorem FW_calls {q : Option Nat} {m : Nat} {f : FuncId} {args : Array Value} {R : Ending → World → Prop} (hc : Calls P f args w R) : CallsIn (FW q) m P f args w R := by
 have h1 : CallsIn Fence.wide m P f args w R := callsIn_wide.2 hc
 cases q with
 | none => exact h1
 | some l => exact h1
theorem FW_roundIn {q : Option Nat} {m l : Nat} {f : FuncId} {tmps : Array Value} {asg body : Code} {R : Ending → World → Prop} (hc : RoundIn Fence.wide m P l f tmps asg body w R) : RoundIn (FW q) m P l f tmps asg body w R := by
 cases q with
 | none => exact hc
 | some k => exact hc
abbrev Call1 := AN → AH → Option (List (Value × AH))
def CallsOk (w0 : World) (P : Program) (call : Call1) : Prop :=
 ∀ (an : AN) (h : AH) (l : List (Value × AH)) (φ : Phi) (w : World) (nx : Next), call an h = some l → R w0 φ h w → NR φ an nx →
  let post : Ending → World → Prop := fun e w' => ∃ v', e = .returned v' ∧ ∃ v h', (v, h') ∈ l ∧ ∃ φ', Nx φ φ' h h' ∧ R w0 φ' h' w' ∧ VR φ' v v'
  (∀ f args, nx = .enter f args → Calls P f args w post) ∧
  (∀ b f tmps asg body, nx = .round b f tmps asg body → ∀ m, RoundIn Fence.wide m P b f tmps asg body w post)
def aStep (P : Program) (call : Call1) (n : Nat) (t : T Value) (h : AH) (o : Op) : Option (List (Value × AH)) := bindL (aOp P n t h o) fun p => match p with
 | (.val v, h') => some [(v, h')]
 | (.skip, h') => some [(undef, h')]
 | (an, h') => call an h'
theorem step_ok (hN : NoCount P) {call : Call1} (hc : CallsOk w0 P call) (r : R w0 φ h w) {a : Act} (f : FR φ n t a.tmps) {o : Oper} {l : List (Value × AH)} (hs : aStep P call n t h o.op = some l) {q : Option Nat} {m : Nat}
  {K : Act → World → Prop} {Q : Exit → Act → World → Prop} (hK : ∀ v h' v' w' φ', (v, h') ∈ l → Nx φ φ' h h' → R w0 φ' h' w' → VR φ' v v' → K (a.put o.dst v') w') : o.wpIn (FW q) m P a w K Q := by
 refine ⟨fun f _ => FW_fn q f, ?_⟩
 obtain ⟨l0, h0, hall⟩ := bindL_spec hs
 have hnd : ∀ c, o.op ≠ .defer c := fun c e => by rw [e] at h0; exact aOp_defer h0
 rw [FW_round, Oper.semAt_eq _ _ _ hnd]
 obtain ⟨an, h1, hm, nx, w1, φ1, hrun, nx1, r1, hnr⟩ := sim_op hN r f h0
 obtain ⟨k, hk, hsub⟩ := hall _ hm
 rw [hrun]
 have dep : (FW q).depth.isSome = true → 1 ≤ m := by rw [FW_depth]; intro x; cases x
 cases hnr with
 | val hv =>
  simp only at hk; cases hk
  exact hK _ _ _ _ φ1 (hsub _ (List.mem_singleton.2 rfl)) nx1 r1 hv
 | skip =>
  simp only at hk; cases hk
  exact hK _ _ _ _ φ1 (hsub _ (List.mem_singleton.2 rfl)) nx1 r1 .undef
 | enter hl =>
  have := (hc _ _ _ _ _ _ hk r1 (.enter hl)).1 _ _ rfl
  refine ⟨dep, FW_calls (this.mono ?_)⟩
  rintro e w2 ⟨v', rfl, v, h2, hmem, φ2, nx2, r2, hv⟩
  exact hK _ _ _ _ φ2 (hsub _ hmem) (nx1.trans nx2) r2 hv
 | @round b i ts sz asg body fn arr hb hf =>
  have := (hc _ _ _ _ _ _ hk r1 (.round (fn := fn) hb hf)).2 _ _ _ _ _ rfl (m - 1)
  refine ⟨dep, FW_roundIn (this.mono ?_)⟩
  rintro e w2 ⟨v', rfl, v, h2, hmem, φ2, nx2, r2, hv⟩
  exact hK _ _ _ _ φ2 (hsub _ hmem) (nx1.trans nx2) r2 hv
def aYd (n : Nat) (t : T Value) (ops : Array Oper) (j : Nat) : Option Bool := match ops[j]? with
 | some o => (match o.dst with
  | some d => if d < n then (match t.get d with
   | some (.bool b) => some b
   | _ => none) else none
  | none => none)
 | none => none
theorem yd_ok {a : Array Value} (f : FR φ n t a) (ops : Array Oper) (j : Nat) : yielded ops a j = aYd n t ops j := by
 unfold yielded aYd
 cases ho : ops[j]? with
 | none => rfl
 | some o =>
  simp only [Option.bind_some]
  cases hd : o.dst with
  | none => rfl
  | some d =>
   simp only [Option.bind_some]
   by_cases hlt : d < n
   · rw [if_pos hlt]
     have h1 : a[d]? = some (a.getD d Go.undef) := by
      rw [Array.getD_eq_getD_getElem?, Array.getElem?_eq_getElem (by rw [f.size]; exact hlt)]; simp
     have h2 := f.at d hlt
     rw [h1]
     generalize a.getD d Go.undef = u at h2
     cases hg : t.get d with
     | none =>
      rw [hg] at h2
      simp only [Option.getD_none] at h2
      obtain ⟨l', rfl, _⟩ := VR.tuple_inv (l := []) h2
      rfl
     | some v =>
      rw [hg] at h2
      simp only [Option.getD_some] at h2
      cases h2 <;> first | rfl | (rename_i hb; cases u <;> first | rfl | (cases hb))
   · rw [if_neg hlt]
     have h9 : a[d]? = none := Array.getElem?_eq_none (Nat.le_trans (Nat.le_of_eq f.size) (Nat.le_of_not_lt hlt))
     rw [h9]
def aWant (n : Nat) (t : T Value) (ops : Array Oper) (o : Oper) : Bool := match o.guard with
 | none => true
 | some (j, b) => (match aYd n t ops j with
  | some c => c == b
  | none => false)
theorem want_ok {a : Array Value} (f : FR φ n t a) (ops : Array Oper) (o : Oper) : Region.wanted o (yielded ops a) = aWant n t ops o := by
 unfold Region.wanted aWant
 cases o.guard with
 | none => rfl
 | some p =>
  obtain ⟨j, b⟩ := p
  dsimp only
  rw [yd_ok f]
  cases aYd n t ops j with
  | none => rfl
  | some c => cases c <;> cases b <;> rfl
def aPut (n : Nat) (t : T Value) (d : Option Tmp) (v : Value) : Option (T Value) := Option.rec (motive := fun _ => Option (T Value)) (some t)
 (fun d => Bool.rec (motive := fun _ => Option (T Value)) (some (t.set d (some v))) none (Nat.ble n d)) d
theorem aPut_eq (n : Nat) (t : T Value) (d : Option Tmp) (v : Value) : aPut n t d v = match d with
 | none => some t
 | some d => if d < n then some (t.set d (some v)) else none := by
 cases d with
 | none => rfl
 | some d =>
  show Bool.rec (motive := fun _ => Option (T Value)) _ _ (Nat.ble n d) = _
  cases hb : Nat.ble n d with
  | true =>
   have : ¬ d < n := Nat.not_lt.2 (Nat.le_of_ble_eq_true hb)
   simp [this]
  | false =>
   have : d < n := Nat.lt_of_not_le (fun hle => by rw [Nat.ble_eq_true_of_le hle] at hb; cases hb)
   simp [this]
theorem put_ok {a : Act} (f : FR φ n t a.tmps) {d : Option Tmp} {v v' : Value} {t' : T Value} (hs : aPut n t d v = some t') (hv : VR φ v v') : FR φ n t' (a.put d v').tmps ∧ (a.put d v').defers = a.defers := by
 rw [aPut_eq] at hs
 cases d with
 | none => cases hs; exact ⟨f, rfl⟩
 | some d =>
  dsimp only at hs
  split at hs
  · cases hs; exact ⟨f.set ‹_› hv, rfl⟩
  · cases hs
def aOps0 (P : Program) (call : Call1) (n : Nat) (ops : Array Oper) : List Nat → T Value → AH → Option (List (T Value × AH))
 | [], t, h => some [(t, h)]
 | i :: r, t, h => match ops[i]? with
  | none => none
  | some o => if aWant n t ops o then bindL (aStep P call n t h o.op) fun p => (match aPut n t o.dst p.1 with
    | some t' => aOps0 P call n ops r t' p.2
    | none => none)
   else (match aPut n t o.dst undef with
    | some t' => aOps0 P call n ops r t' h
    | none => none)
theorem ops_ok0 (hN : NoCount P) {call : Call1} (hc : CallsOk w0 P call) {ops : Array Oper} {q : Option Nat} {m : Nat} {Q : Exit → Act → World → Prop} : ∀ (r : List Nat) {t : T Value} {h : AH} {l : List (T Value × AH)} {φ : Phi} {a : Act} {w : World},
  aOps0 P call n ops r t h = some l → R w0 φ h w → FR φ n t a.tmps →
  (∀ t' h' φ' a' w', (t', h') ∈ l → Nx φ φ' h h' → R w0 φ' h' w' → FR φ' n t' a'.tmps → a'.defers = a.defers → Q .normal a' w') → wpOpsIn (FW q) m P ops Q r a w
 | [], t, h, l, φ, a, w, hs, hr, hf, hQ => by
  simp only [aOps0] at hs; cases hs
  exact hQ _ _ φ _ _ (List.mem_singleton.2 rfl) (.refl φ h) hr hf rfl
 | i :: r, t, h, l, φ, a, w, hs, hr, hf, hQ => by
  simp only [aOps0] at hs
  simp only [wpOpsIn]
  cases ho : ops[i]? with
  | none => rw [ho] at hs; cases hs
  | some o =>
   rw [ho] at hs
   dsimp only at hs ⊢
   rw [want_ok hf]
   split at hs
   · rename_i hw
     rw [if_pos hw]
     obtain ⟨l0, h0, hall⟩ := bindL_spec hs
     refine step_ok hN hc hr hf h0 ?_
     intro v h1 v' w1 φ1 hm nx1 r1 hv
     obtain ⟨k, hk, hsub⟩ := hall _ hm
     dsimp only at hk
     split at hk
     · rename_i t1 ht
       obtain ⟨f1, d1⟩ := put_ok (hf.mono nx1.le) ht hv
       refine ops_ok0 hN hc r hk r1 f1 (fun t' h' φ' a' w' hm' nx' r' f' d' => hQ t' h' φ' a' w' (hsub _ hm') (nx1.trans nx') r' f' (d'.trans d1))
     · cases hk
   · rename_i hw
     rw [if_neg hw]
     split at hs
     · rename_i t1 ht
       obtain ⟨f1, d1⟩ := put_ok hf ht .undef
       refine ⟨fun f _ => FW_fn q f, ops_ok0 hN hc r hs hr f1 (fun t' h' φ' a' w' hm' nx' r' f' d' => hQ t' h' φ' a' w' hm' nx' r' f' (d'.trans d1))⟩
     · cases hs
def opsStep (P : Program) (call : Call1) (n : Nat) (ops : Array Oper) (o : Oper) (ih : T Value → AH → Option (List (T Value × AH))) (t : T Value) (h : AH) : Option (List (T Value × AH)) :=
 Bool.rec (motive := fun _ => Option (List (T Value × AH)))
  (Option.rec (motive := fun _ => Option (List (T Value × AH))) none (fun t' => ih t' h) (aPut n t o.dst undef))
  (bindL (aStep P call n t h o.op) fun p => Option.rec (motive := fun _ => Option (List (T Value × AH))) none (fun t' => ih t' p.2) (aPut n t o.dst p.1)) (aWant n t ops o)
def aOps (P : Program) (call : Call1) (n : Nat) (ops : Array Oper) (l : List Oper) : T Value → AH → Option (List (T Value × AH)) :=
 List.rec (motive := fun _ => T Value → AH → Option (List (T Value × AH))) (fun t h => some [(t, h)]) (fun o _ ih => opsStep P call n ops o ih) l
theorem aOps_eq {call : Call1} {ops : Array Oper} : ∀ {l : List Oper} {r : List Nat}, r.map (fun i => ops[i]?) = l.map some → ∀ t h, aOps P call n ops l t h = aOps0 P call n ops r t h
 | [], [], _, t, h => rfl
 | [], _ :: _, hm, _, _ => by simp at hm
 | _ :: _, [], hm, _, _ => by simp at hm
 | o :: l, i :: r, hm, t, h => by
  simp only [List.map_cons, List.cons.injEq] at hm
  have ih : ∀ t h, aOps P call n ops l t h = aOps0 P call n ops r t h := aOps_eq hm.2
  show opsStep P call n ops o (aOps P call n ops l) t h = _
  simp only [aOps0, hm.1]
  unfold opsStep
  cases hw : aWant n t ops o with
  | true =>
   simp only [if_true]
   congr 1
   funext p
   cases aPut n t o.dst p.1 with
   | none => rfl
   | some t' => exact ih t' p.2
  | false =>
   simp only [Bool.false_eq_true, if_false]
   cases aPut n t o.dst undef with
   | none => rfl
   | some t' => exact ih t' h
theorem range_all (ops : Array Oper) : (List.range ops.size).map (fun i => ops[i]?) = ops.toList.map some := by
 apply List.ext_getElem?
 intro i
 simp only [List.getElem?_map, Array.getElem?_toList]
 by_cases hi : i < ops.size
 · simp [hi]
 · simp [hi]
theorem ops_ok (hN : NoCount P) {call : Call1} (hc : CallsOk w0 P call) {ops : Array Oper} {q : Option Nat} {m : Nat} {Q : Exit → Act → World → Prop} {t : T Value} {h : AH} {l : List (T Value × AH)} {φ : Phi} {a : Act} {w : World}
  (hs : aOps P call n ops ops.toList t h = some l) (r : R w0 φ h w) (f : FR φ n t a.tmps)
  (hQ : ∀ t' h' φ' a' w', (t', h') ∈ l → Nx φ φ' h h' → R w0 φ' h' w' → FR φ' n t' a'.tmps → a'.defers = a.defers → Q .normal a' w') : wpOpsIn (FW q) m P ops Q (List.range ops.size) a w :=
 ops_ok0 hN hc _ (by rw [← aOps_eq (range_all ops)]; exact hs) r f hQ
end
end Go.X
namespace Go.X
noncomputable section
open Go Go.RowKit
variable {w0 w w' : World} {φ φ' : Phi} {h h' : AH} {P : Program} {n : Nat} {t t' : T Value}
def vt (t : T Value) (s : Nat) : Value := (t.get s).getD undef
def opsL : Op → List Operand
 | .move x | .assign x | .box _ x | .load _ x | .nilCheck x | .unOp _ _ x | .convert _ _ x | .makeInterface _ x | .fieldAddr _ x _ | .field _ x _ | .range _ x | .next x _ | .entry x | .typeAssert x _ _ _ | .extract x _ => [x]
 | .pick c a b => [c, a, b]
 | .build _ ⟨ps⟩ | .buildSlice _ _ ⟨ps⟩ => ps.map (·.2)
 | .store _ a v | .binOp _ _ a v _ | .makeSlice _ a v | .indexAddr _ a v | .index _ a v | .lookup _ a v _ | .mapEntry _ a v => [a, v]
 | .makeFunc _ ⟨l⟩ ⟨m⟩ => l ++ m
 | .makeMap _ r => r.toList
 | .slice _ x l h m => x :: (l.toList ++ h.toList ++ m.toList)
 | .mapUpdate _ m k v | .entryStore _ m k v | .insert _ m k v => [m, k, v]
 | .call ⟨.value f, ⟨args⟩, _⟩ => f :: args
 | .call ⟨.invoke r _, ⟨args⟩, _⟩ => r :: args
 | .call ⟨.builtin _, ⟨args⟩, _⟩ => args
 | _ => []
def slots (o : Op) : List Nat := (opsL o).filterMap fun | .tmp k => some k | _ => none
theorem aO_congr {x : Operand} (hx : ∀ k, x = .tmp k → k < n → vt t k = vt t' k) : aO n t x = aO n t' x := by
 rw [aO_eq, aO_eq]
 cases x with
 | tmp k =>
  by_cases hk : k < n
  · have := hx k rfl hk; unfold vt at this; simp only [aEv, this]
  · simp [opnOk, hk]
 | _ => rfl
theorem slots_aO {o : Op} (hs : ∀ s, s ∈ slots o → s < n → vt t s = vt t' s) : ∀ x, x ∈ opsL o → aO n t x = aO n t' x := by
 intro x hx
 refine aO_congr (fun k e hk => hs k ?_ hk)
 subst e
 exact List.mem_filterMap.2 ⟨_, hx, rfl⟩
theorem aOs_congr : ∀ {l : List Operand}, (∀ x, x ∈ l → aO n t x = aO n t' x) → aOs n t l = aOs n t' l
 | [], _ => rfl
 | x :: l, h => by simp only [aOs]; rw [h x (by simp), aOs_congr (fun y hy => h y (by simp [hy]))]
theorem aPs_congr : ∀ {l : List (Nat × Operand)}, (∀ x, x ∈ l.map (·.2) → aO n t x = aO n t' x) → aPs n t l = aPs n t' l
 | [], _ => rfl
 | (i, x) :: l, h => by simp only [aPs]; rw [h x (by simp), aPs_congr (fun y hy => h y (by simp at hy ⊢; exact .inr hy))]
theorem aOO_congr {x : Option Operand} (h : ∀ y, y ∈ x.toList → aO n t y = aO n t' y) : aOO n t x = aOO n t' x := by
 cases x with
 | none => rfl
 | some y => simp only [aOO]; rw [h y (by simp)]
theorem aAl_congr {o : Op} (hs : ∀ s, s ∈ slots o → s < n → vt t s = vt t' s) : aAl P n t o = aAl P n t' o := by
 have hx := slots_aO (n := n) hs
 unfold aAl
 have : aAl0 P n t o = aAl0 P n t' o := by
  cases o with
  | box el x => simp only [aAl0]; rw [hx x (by simp [opsL])]
  | buildSlice T len ps => obtain ⟨ps⟩ := ps; simp only [aAl0]; rw [aPs_congr (fun y hy => hx y hy)]
  | makeSlice T l c => simp only [aAl0]; rw [hx l (by simp [opsL]), hx c (by simp [opsL])]
  | makeMap T r => cases r with
   | none => rfl
   | some x => simp only [aAl0]; rw [hx x (by simp [opsL])]
  | _ => rfl
 rw [this]
theorem aVal0_congr {o : Op} (hs : ∀ s, s ∈ slots o → s < n → vt t s = vt t' s) : aVal0 P n t h o = aVal0 P n t' h o := by
 have hx := slots_aO (n := n) hs
 cases o with
 | move x => simp only [aVal0]; rw [hx x (by simp [opsL])]
 | assign x => simp only [aVal0]; rw [hx x (by simp [opsL])]
 | pick c a b =>
  simp only [aVal0]; rw [hx c (by simp [opsL])]
  split
  · rename_i q _
    cases q
    · exact hx b (by simp [opsL])
    · exact hx a (by simp [opsL])
  · rfl
 | build T ps => obtain ⟨ps⟩ := ps; simp only [aVal0]; rw [aPs_congr (fun y hy => hx y hy)]
 | load T x => simp only [aVal0]; rw [hx x (by simp [opsL])]
 | nilCheck x => simp only [aVal0]; rw [hx x (by simp [opsL])]
 | binOp op T x y yt => simp only [aVal0]; rw [hx x (by simp [opsL]), hx y (by simp [opsL])]
 | unOp op T x => simp only [aVal0]; rw [hx x (by simp [opsL])]
 | convert s d x => simp only [aVal0]; rw [hx x (by simp [opsL])]
 | makeInterface T x => simp only [aVal0]; rw [hx x (by simp [opsL])]
 | makeFunc fn l m =>
  obtain ⟨l⟩ := l; obtain ⟨m⟩ := m
  cases fn with
  | func k => simp only [aVal0]; rw [aOs_congr (fun y hy => hx y (by simp [opsL, hy])), aOs_congr (l := m) (fun y hy => hx y (by simp [opsL, hy]))]
  | _ => rfl
 | slice T x lo hi mx =>
  simp only [aVal0]
  rw [hx x (by simp [opsL]), aOO_congr (x := lo) (fun y hy => hx y (by simp only [opsL, List.mem_cons, List.mem_append]; exact .inr (.inl (.inl hy)))),
    aOO_congr (x := hi) (fun y hy => hx y (by simp only [opsL, List.mem_cons, List.mem_append]; exact .inr (.inl (.inr hy)))), aOO_congr (x := mx) (fun y hy => hx y (by simp only [opsL, List.mem_cons, List.mem_append]; exact .inr (.inr hy)))]
 | fieldAddr s x f => simp only [aVal0]; rw [hx x (by simp [opsL])]
 | field T x f => simp only [aVal0]; rw [hx x (by simp [opsL])]
 | indexAddr T x i => simp only [aVal0]; rw [hx x (by simp [opsL]), hx i (by simp [opsL])]
 | index T x i => simp only [aVal0]; rw [hx x (by simp [opsL]), hx i (by simp [opsL])]
 | lookup T x k c => simp only [aVal0]; rw [hx x (by simp [opsL]), hx k (by simp [opsL])]
 | typeAssert x xT T c => simp only [aVal0]; rw [hx x (by simp [opsL])]
 | extract x i => simp only [aVal0]; rw [hx x (by simp [opsL])]
 | entry it => simp only [aVal0]; rw [hx it (by simp [opsL])]
 | call c =>
  obtain ⟨callee, args, Ts⟩ := c
  obtain ⟨args⟩ := args
  obtain ⟨Ts⟩ := Ts
  cases callee with
  | builtin b =>
    have hargs : ∀ y, y ∈ args → aO n t y = aO n t' y := fun y hy => hx y (by simpa [opsL] using hy)
    match args, Ts, hargs with
    | [x], [T], hargs => cases b <;> first | rfl | (simp only [aVal0]; rw [hargs x (by simp)])
    | [], _, _ => cases b <;> rfl
    | [_], [], _ => cases b <;> rfl
    | [_], _ :: _ :: _, _ => cases b <;> rfl
    | _ :: _ :: _, _, _ => cases b <;> rfl
  | _ => rfl
 | _ => rfl
theorem aVal_congr {o : Op} (hs : ∀ s, s ∈ slots o → s < n → vt t s = vt t' s) : aVal P n t h o = aVal P n t' h o := by
 rw [aVal_eq, aVal_eq]; exact aVal0_congr hs
theorem aAct0_congr {o : Op} (hs : ∀ s, s ∈ slots o → s < n → vt t s = vt t' s) : aAct0 P n t h o = aAct0 P n t' h o := by
 have hx := slots_aO (n := n) hs
 cases o with
 | store T a x => simp only [aAct0]; rw [hx a (by simp [opsL]), hx x (by simp [opsL])]
 | mapUpdate T m k x => simp only [aAct0]; rw [hx m (by simp [opsL]), hx k (by simp [opsL]), hx x (by simp [opsL])]
 | insert T m k x => simp only [aAct0]; rw [hx m (by simp [opsL]), hx k (by simp [opsL]), hx x (by simp [opsL])]
 | mapEntry T m k => simp only [aAct0]; rw [hx m (by simp [opsL]), hx k (by simp [opsL])]
 | entryStore T m k x => simp only [aAct0]; rw [hx m (by simp [opsL]), hx k (by simp [opsL]), hx x (by simp [opsL])]
 | range T x => simp only [aAct0]; rw [hx x (by simp [opsL])]
 | next it b => simp only [aAct0]; rw [hx it (by simp [opsL])]
 | convert s d x => simp only [aAct0]; rw [hx x (by simp [opsL])]
 | call c =>
  obtain ⟨callee, args, Ts⟩ := c
  obtain ⟨args⟩ := args
  obtain ⟨Ts⟩ := Ts
  cases callee with
  | builtin b =>
   simp only [aAct0]; rw [aOs_congr (fun y hy => hx y (by simpa [opsL] using hy))]
  | _ => rfl
 | _ => rfl
theorem aAct_congr {o : Op} (hs : ∀ s, s ∈ slots o → s < n → vt t s = vt t' s) : aAct P n t h o = aAct P n t' h o := by
 rw [aAct_eq, aAct_eq]; exact aAct0_congr hs
theorem aCallO_congr {o : Op} (hs : ∀ s, s ∈ slots o → s < n → vt t s = vt t' s) : aCallO P n t h o = aCallO P n t' h o := by
 have hx := slots_aO (n := n) hs
 cases o with
 | call c =>
  obtain ⟨callee, args, Ts⟩ := c
  obtain ⟨args⟩ := args
  cases callee with
  | value f => simp only [aCallO]; rw [hx f (by simp [opsL]), aOs_congr (fun y hy => hx y (by simp [opsL, hy]))]
  | invoke r nm => simp only [aCallO]; rw [hx r (by simp [opsL]), aOs_congr (fun y hy => hx y (by simp [opsL, hy]))]
  | builtin b => rfl
 | _ => rfl
theorem aOp_congr {o : Op} (hs : ∀ s, s ∈ slots o → s < n → vt t s = vt t' s) : aOp P n t h o = aOp P n t' h o := by
 unfold aOp
 rw [aAl_congr hs, aVal_congr hs, aAct_congr hs, aCallO_congr hs]
theorem aStep_congr {call : Call1} {o : Op} (hs : ∀ s, s ∈ slots o → s < n → vt t s = vt t' s) : aStep P call n t h o = aStep P call n t' h o := by
 unfold aStep; rw [aOp_congr hs]
def gslot (ops : Array Oper) (o : Oper) : Option Nat := match o.guard with
 | some (j, _) => (ops[j]?).bind (·.dst)
 | none => none
theorem aWant_congr {ops : Array Oper} {o : Oper} (hs : ∀ s, gslot ops o = some s → s < n → vt t s = vt t' s) : aWant n t ops o = aWant n t' ops o := by
 unfold aWant
 unfold gslot at hs
 cases hg : o.guard with
 | none => rfl
 | some p =>
  obtain ⟨j, b⟩ := p
  rw [hg] at hs
  dsimp only at hs ⊢
  have : aYd n t ops j = aYd n t' ops j := by
   unfold aYd
   cases ho : ops[j]? with
   | none => rfl
   | some o' =>
    dsimp only
    cases hd : o'.dst with
    | none => rfl
    | some d =>
     have h1 := hs d (by rw [ho]; exact hd)
     dsimp only
     split
     · rename_i hdn
       have h1 := h1 hdn
       unfold vt at h1
       cases h2 : t.get d with
       | none =>
        rw [h2] at h1
        cases h3 : t'.get d with
        | none => rfl
        | some u =>
         rw [h3] at h1
         simp only [Option.getD_none, Option.getD_some] at h1
         rw [← h1]; rfl
       | some v =>
        rw [h2] at h1
        cases h3 : t'.get d with
        | none =>
         rw [h3] at h1
         simp only [Option.getD_none, Option.getD_some] at h1
         rw [h1]; rfl
        | some u =>
         rw [h3] at h1
         simp only [Option.getD_some] at h1
         rw [h1]
     · rfl
  rw [this]
def opK : Op → Nat
 | .move _ | .assign _ | .pick _ _ _ | .build _ _ | .nilCheck _ | .unOp _ _ _ | .makeInterface _ _ | .makeFunc _ _ _ | .fieldAddr _ _ _ | .field _ _ _ | .indexAddr _ _ _ | .index _ _ _ | .typeAssert _ _ _ _ | .extract _ _ => 1
 | .load _ _ | .binOp _ _ _ _ _ | .convert _ _ _ | .slice _ _ _ _ _ | .lookup _ _ _ _ => 2
 | .call ⟨.builtin .len, _, _⟩ | .call ⟨.builtin .cap, _, _⟩ => 2
 | .alloc _ | .box _ _ | .buildSlice _ _ _ | .makeSlice _ _ _ | .makeMap _ _ => 3
 | _ => 0
theorem aVal0_pure {o : Op} (hk : opK o = 1) : aVal0 P n t h o = aVal0 P n t h' o := by
 cases o with
 | build T ps => obtain ⟨ps⟩ := ps; rfl
 | makeFunc fn l m => obtain ⟨l⟩ := l; obtain ⟨m⟩ := m; cases fn <;> rfl
 | call c =>
  obtain ⟨callee, args, Ts⟩ := c
  cases callee with
  | builtin b => cases b <;> simp [opK] at hk
  | _ => simp [opK] at hk
 | _ => first | rfl | (simp [opK] at hk; done)
theorem aVal_pure {o : Op} (hk : opK o = 1) : aVal P n t h o = aVal P n t h' o := by
 rw [aVal_eq, aVal_eq]; exact aVal0_pure hk
def edgesOf (o : Oper) : List Nat := (o.after.toList.filter fun e => Region.binds .any e).map (·.on)
def isE (ops : Array Oper) (j : Nat) : Bool := match ops[j]? with | some o => opK o.op == 0 | none => false
def step1 (ops : Array Oper) (ls : List Nat) (j : Nat) : Nat := ls.getD j 0 + if isE ops j then 1 else 0
def maxL : List Nat → Nat
 | [] => 0
 | x :: l => max x (maxL l)
def levL (ops : Array Oper) : List Nat := ops.toList.foldl (fun ls o => ls ++ [maxL ((edgesOf o).map (step1 ops ls))]) []
def orL : List Nat → Nat
 | [] => 0
 | x :: l => x ||| orL l
def maskL (ops : Array Oper) : List Nat := ops.toList.foldl (fun ms o => ms ++ [orL ((edgesOf o).map fun j => 2 ^ j ||| ms.getD j 0)]) []
def dstAt (ops : Array Oper) (j : Nat) : Option Nat := (ops[j]?).bind (·.dst)
def edgeTo (ops : Array Oper) (i j : Nat) : Bool := match ops[i]? with | some o => (edgesOf o).contains j | none => false
def opOk (n : Nat) (ops : Array Oper) (ls ms : List Nat) (i : Nat) : Bool := match ops[i]? with
  | none => false
  | some o =>
    (edgesOf o).all (fun j => decide (j < i) && decide (step1 ops ls j ≤ ls.getD i 0)) &&
    (decide (ls.getD i 0 = 0) || (edgesOf o).any fun j => decide (step1 ops ls j = ls.getD i 0)) &&
    (!isE ops i || (List.range i).all fun j => !isE ops j || decide (ls.getD j 0 < ls.getD i 0)) &&
    (match o.dst with
     | none => true
     | some d => decide (d < n) && (List.range ops.size).all fun j => decide (j = i) || (dstAt ops j != some d)) &&
    (slots o.op).all (fun s => (List.range ops.size).all fun j => (dstAt ops j != some s) || edgeTo ops i j || (edgeTo ops j i && decide (opK o.op ≠ 2))) &&
    (match o.guard with
     | none => true
     | some (g, _) => (edgesOf o).contains g) &&
    decide (ms.getD i 0 = orL ((edgesOf o).map fun j => 2 ^ j ||| ms.getD j 0))
def planOk (n : Nat) (ops : Array Oper) (ls ms : List Nat) : Bool := (List.range ops.size).all (opOk n ops ls ms)
def veq : Nat → Value → Value → Bool
 | _, .bool a, .bool b => a == b
 | _, .int k a, .int j b => decide (k = j) && decide (a = b)
 | _, .float k a, .float j b => decide (k = j) && decide (a = b)
 | _, .string a, .string b => decide (a.data.toList = b.data.toList)
 | _, .pointer none, .pointer none => true
 | _, .pointer (some a), .pointer (some b) => decide (a = b)
 | _, .slice a l c, .slice b m d => decide (a = b) && decide (l = m) && decide (c = d)
 | _, .map a, .map b => decide (a = b)
 | _, .nilFunc, .nilFunc => true
 | _, .nilIface, .nilIface => true
 | k + 1, .func (.func f) ⟨a⟩ ⟨b⟩, .func (.func g) ⟨c⟩ ⟨d⟩ => decide (f = g) && lst (veq k) a c && lst (veq k) b d
 | k + 1, .iface t v, .iface u w => decide (t = u) && veq k v w
 | k + 1, .agg ⟨a⟩, .agg ⟨b⟩ => lst (veq k) a b
 | k + 1, .tuple ⟨a⟩, .tuple ⟨b⟩ => lst (veq k) a b
 | _, _, _ => false
where lst (f : Value → Value → Bool) : List Value → List Value → Bool
 | [], [] => true
 | x :: l, y :: m => f x y && lst f l m
 | _, _ => false
theorem lst_eq {f : Value → Value → Bool} (hf : ∀ x y, f x y = true → x = y) : ∀ (l m : List Value), veq.lst f l m = true → l = m
 | [], [], _ => rfl
 | x :: l, y :: m, h => by
  simp only [veq.lst, Bool.and_eq_true] at h
  rw [hf x y h.1, lst_eq hf l m h.2]
 | [], _ :: _, h => by simp [veq.lst] at h
 | _ :: _, [], h => by simp [veq.lst] at h
theorem bytes_eq {a b : ByteArray} (h : a.data.toList = b.data.toList) : a = b := by
 apply ByteArray.ext
 exact Array.ext' h
theorem veq_eq : ∀ (k : Nat) (v w : Value), veq k v w = true → v = w := by
 intro k
 induction k with
 | zero =>
  intro v w hv
  unfold veq at hv
  split at hv
  all_goals first
    | rfl
    | (simp at hv; done)
    | (simp only [Bool.and_eq_true, decide_eq_true_eq, beq_iff_eq] at hv; subst hv; rfl)
    | (simp only [Bool.and_eq_true, decide_eq_true_eq] at hv; rw [bytes_eq hv]; done)
    | (simp only [Bool.and_eq_true, decide_eq_true_eq] at hv; obtain ⟨h1, h2⟩ := hv; subst h1; subst h2; rfl)
    | (simp only [Bool.and_eq_true, decide_eq_true_eq] at hv; obtain ⟨⟨h1, h2⟩, h3⟩ := hv; subst h1; subst h2; subst h3; rfl)
    | (rename_i e; cases e)
 | succ k ih =>
  intro v w hv
  unfold veq at hv
  split at hv
  all_goals first
    | rfl
    | (simp at hv; done)
    | (simp only [Bool.and_eq_true, decide_eq_true_eq, beq_iff_eq] at hv; subst hv; rfl)
    | (simp only [Bool.and_eq_true, decide_eq_true_eq] at hv; rw [bytes_eq hv]; done)
    | (simp only [Bool.and_eq_true, decide_eq_true_eq] at hv; obtain ⟨h1, h2⟩ := hv; subst h1; subst h2; rfl)
    | (simp only [Bool.and_eq_true, decide_eq_true_eq] at hv; obtain ⟨⟨h1, h2⟩, h3⟩ := hv; subst h1; subst h2; subst h3; rfl)
    | skip
  · rename_i e
    cases e
    simp only [Bool.and_eq_true, decide_eq_true_eq] at hv
    obtain ⟨⟨h1, h2⟩, h3⟩ := hv
    rw [h1, lst_eq ih _ _ h2, lst_eq ih _ _ h3]
  · rename_i e
    cases e
    simp only [Bool.and_eq_true, decide_eq_true_eq] at hv
    obtain ⟨h1, h2⟩ := hv
    rw [h1, ih _ _ h2]
  · rename_i e
    cases e
    rw [lst_eq ih _ _ hv]
  · rename_i e
    cases e
    rw [lst_eq ih _ _ hv]
end
end Go.X
namespace Go.X
noncomputable section
open Go Go.RowKit
variable {w0 w w' : World} {φ φ' : Phi} {h h' : AH} {P : Program} {n : Nat} {t t' : T Value} {ops : Array Oper} {ls ms : List Nat}
structure PlanSpec (n : Nat) (ops : Array Oper) (ls ms : List Nat) : Prop where
 edge : ∀ (i : Nat) (o : Oper) (j : Nat), ops[i]? = some o → j ∈ edgesOf o → j < i ∧ step1 ops ls j ≤ ls.getD i 0
 att : ∀ (i : Nat) (o : Oper), ops[i]? = some o → ls.getD i 0 = 0 ∨ ∃ j, j ∈ edgesOf o ∧ step1 ops ls j = ls.getD i 0
 tot : ∀ (i j : Nat), i < ops.size → isE ops i = true → isE ops j = true → j < i → ls.getD j 0 < ls.getD i 0
 dst : ∀ (i d : Nat), dstAt ops i = some d → d < n ∧ ∀ j, dstAt ops j = some d → j = i
 slot : ∀ (i : Nat) (o : Oper) (s j : Nat), ops[i]? = some o → s ∈ slots o.op → dstAt ops j = some s → j ∈ edgesOf o ∨ (edgeTo ops j i = true ∧ opK o.op ≠ 2)
 guard : ∀ (i : Nat) (o : Oper) (g : Nat) (b : Bool), ops[i]? = some o → o.guard = some (g, b) → g ∈ edgesOf o
 mask : ∀ (i : Nat) (o : Oper), ops[i]? = some o → ms.getD i 0 = orL ((edgesOf o).map fun j => 2 ^ j ||| ms.getD j 0)
theorem dstAt_lt {i d : Nat} (hd : dstAt ops i = some d) : i < ops.size := by
 unfold dstAt at hd
 cases ho : ops[i]? with
 | none => rw [ho] at hd; cases hd
 | some o => exact (Array.getElem?_eq_some_iff.1 ho).1
theorem dstAt_eq {i : Nat} {o : Oper} (ho : ops[i]? = some o) : dstAt ops i = o.dst := by unfold dstAt; rw [ho]; rfl
theorem plan_spec (hp : planOk n ops ls ms = true) : PlanSpec n ops ls ms := by
 unfold planOk at hp
 rw [List.all_eq_true] at hp
 have key : ∀ (i : Nat) (o : Oper), ops[i]? = some o → opOk n ops ls ms i = true := fun i o ho => hp i (List.mem_range.2 (Array.getElem?_eq_some_iff.1 ho).1)
 have un : ∀ (i : Nat) (o : Oper), ops[i]? = some o → _ := fun i o ho => by
   have := key i o ho
   unfold opOk at this
   rw [ho] at this
   simp only [Bool.and_eq_true] at this
   exact this
 refine ⟨fun i o j ho hj => ?_, fun i o ho => ?_, fun i j hi hE hE' hlt => ?_, fun i d hd => ?_, fun i o s j ho hs hd => ?_, fun i o g b ho hg => ?_, fun i o ho => ?_⟩
 · obtain ⟨⟨⟨⟨⟨⟨h1, h2⟩, h3⟩, h4⟩, h5⟩, h6⟩, h7⟩ := un i o ho
   have := List.all_eq_true.1 h1 j hj
   simpa using this
 · obtain ⟨⟨⟨⟨⟨⟨h1, h2⟩, h3⟩, h4⟩, h5⟩, h6⟩, h7⟩ := un i o ho
   simp only [Bool.or_eq_true, decide_eq_true_eq, List.any_eq_true] at h2
   exact h2
 · have ho : ops[i]? = some ops[i] := Array.getElem?_eq_getElem hi
   obtain ⟨⟨⟨⟨⟨⟨h1, h2⟩, h3⟩, h4⟩, h5⟩, h6⟩, h7⟩ := un i _ ho
   rw [hE] at h3
   simp only [Bool.not_true, Bool.false_or, List.all_eq_true] at h3
   have := h3 j (List.mem_range.2 hlt)
   rw [hE'] at this
   simpa using this
 · have hi := dstAt_lt hd
   have ho : ops[i]? = some ops[i] := Array.getElem?_eq_getElem hi
   obtain ⟨⟨⟨⟨⟨⟨h1, h2⟩, h3⟩, h4⟩, h5⟩, h6⟩, h7⟩ := un i _ ho
   rw [dstAt_eq ho] at hd
   rw [hd] at h4
   simp only [Bool.and_eq_true, decide_eq_true_eq, List.all_eq_true] at h4
   refine ⟨h4.1, fun j hj => ?_⟩
   have := h4.2 j (List.mem_range.2 (dstAt_lt hj))
   rw [hj] at this
   simpa using this
 · obtain ⟨⟨⟨⟨⟨⟨h1, h2⟩, h3⟩, h4⟩, h5⟩, h6⟩, h7⟩ := un i o ho
   have := List.all_eq_true.1 (List.all_eq_true.1 h5 s hs) j (List.mem_range.2 (dstAt_lt hd))
   rw [hd] at this
   simp only [bne_self_eq_false, Bool.false_or, Bool.or_eq_true, Bool.and_eq_true, decide_eq_true_eq] at this
   rcases this with h8 | h8
   · left
     unfold edgeTo at h8
     rw [ho] at h8
     simpa using h8
   · exact .inr h8
 · obtain ⟨⟨⟨⟨⟨⟨h1, h2⟩, h3⟩, h4⟩, h5⟩, h6⟩, h7⟩ := un i o ho
   rw [hg] at h6
   simpa using h6
 · obtain ⟨⟨⟨⟨⟨⟨h1, h2⟩, h3⟩, h4⟩, h5⟩, h6⟩, h7⟩ := un i o ho
   simpa using h7
theorem testBit_orL {l : List Nat} {i : Nat} (hb : (orL l).testBit i = true) : ∃ x, x ∈ l ∧ x.testBit i = true := by
 induction l with
 | nil => simp [orL] at hb
 | cons x l ih =>
  simp only [orL, Nat.testBit_or, Bool.or_eq_true] at hb
  rcases hb with hb | hb
  · exact ⟨x, by simp, hb⟩
  · obtain ⟨y, h1, h2⟩ := ih hb; exact ⟨y, by simp [h1], h2⟩
theorem mask_listed (sp : PlanSpec n ops ls ms) {L : Nat → Prop} (hcl : ∀ (i : Nat) (o : Oper), L i → ops[i]? = some o → ∀ j, j ∈ edgesOf o → L j) : ∀ (i k : Nat), L i → i < ops.size → (ms.getD i 0).testBit k = true → L k := by
 intro i
 induction i using Nat.strongRecOn with
 | _ i ih =>
  intro k hi hlt hb
  have ho : ops[i]? = some ops[i] := Array.getElem?_eq_getElem hlt
  rw [sp.mask i _ ho] at hb
  obtain ⟨x, hx, hxb⟩ := testBit_orL hb
  obtain ⟨j, hj, rfl⟩ := List.mem_map.1 hx
  have hji := (sp.edge i _ j ho hj).1
  have hLj := hcl i _ hi ho j hj
  rw [Nat.testBit_or, Bool.or_eq_true] at hxb
  rcases hxb with h1 | h1
  · rw [Nat.testBit_two_pow] at h1
    have : j = k := by simpa using h1
    subst this; exact hLj
  · exact ih j hji k hLj (by omega) h1
def aN (P : Program) (n : Nat) (t : T Value) (h : AH) (o : Op) : Option (Value × AH) :=
 if opK o = 3 then (match aAl P n t o with
  | some (al, mk) => (match h.newAl al with
   | some (b, h') => some (mk.val b, h')
   | none => none)
  | none => none)
 else if opK o = 0 then none else (match aVal P n t h o with
  | some v => some (v, h)
  | none => none)
def aNs (P : Program) (n : Nat) (ops : Array Oper) : List Nat → T Value → AH → Option (T Value × AH)
 | [], t, h => some (t, h)
 | i :: r, t, h => match ops[i]? with
  | none => none
  | some o => if aWant n t ops o then (match aN P n t h o.op with
    | some (v, h') => (match aPut n t o.dst v with
     | some t' => aNs P n ops r t' h'
     | none => none)
    | none => none)
   else (match aPut n t o.dst undef with
    | some t' => aNs P n ops r t' h
    | none => none)
theorem vt_put {d : Option Tmp} {v : Value} (hs : aPut n t d v = some t') (_hn : T.Ok (n)) (s : Nat) : vt t' s = if d = some s then v else vt t s := by
 rw [aPut_eq] at hs
 cases d with
 | none => cases hs; simp
 | some d =>
  dsimp only at hs
  split at hs
  · rename_i hd
    cases hs
    unfold vt
    rw [T.get_set]
    by_cases e : s = d
    · subst e; simp
    · rw [if_neg e, if_neg (by intro x; cases x; exact e rfl)]
  · cases hs
def NFact (P : Program) (n : Nat) (ops : Array Oper) (o : Oper) (tt : T Value) (hh : AH) (t1 : T Value) (h1 : AH) (b : Nat) : Prop :=
 (aWant n tt ops o = true ∧ (((opK o.op = 1 ∨ opK o.op = 2) ∧ ∃ v, aVal P n tt hh o.op = some v ∧ ∀ d, o.dst = some d → vt t1 d = v) ∨
  (opK o.op = 3 ∧ ∃ al mk, aAl P n tt o.op = some (al, mk) ∧ b < h1.next ∧ h1.m.get b = some al.obj ∧ ∀ d, o.dst = some d → vt t1 d = mk.val b))) ∨
 (aWant n tt ops o = false ∧ ∀ d, o.dst = some d → vt t1 d = undef)
theorem opK_le (o : Op) : opK o ≤ 3 := by unfold opK; split <;> omega
theorem aNs_spec (sp : PlanSpec n ops ls ms) (hn : T.Ok (n)) : ∀ (r : List Nat) {t : T Value} {h : AH} {t1 : T Value} {h1 : AH}, r.Pairwise (· < ·) → aNs P n ops r t h = some (t1, h1) → T.Ok (h.next) →
  (h.next ≤ h1.next ∧ T.Ok (h1.next) ∧ ∀ b, b < h.next → h1.m.get b = h.m.get b) ∧
  (∀ s, (∀ i, i ∈ r → dstAt ops i ≠ some s) → vt t1 s = vt t s) ∧
  ∃ b : Nat → Nat, (∀ i, i ∈ r → ((h.next ≤ b i / 2 ∧ b i / 2 < h1.next ∧ b i % 2 = 0) ∨ b i = 2 * i + 1) ∧ ∃ o tt hh, ops[i]? = some o ∧ (∀ s, (∀ j, j ∈ r → j < i → dstAt ops j ≠ some s) → vt tt s = vt t s) ∧
   (∀ s j, j ∈ r → j < i → dstAt ops j = some s → vt tt s = vt t1 s) ∧ NFact P n ops o tt hh t1 h1 (b i / 2) ∧ (opK o.op = 3 → aWant n tt ops o = true → b i % 2 = 0)) ∧ (∀ i j, i ∈ r → j ∈ r → i ≠ j → b i ≠ b j)
 | [], t, h, t1, h1, _, hs, ht => by
  simp only [aNs] at hs; cases hs
  exact ⟨⟨Nat.le_refl _, ht, fun _ _ => rfl⟩, fun _ _ => rfl, fun _ => 0, fun i hi => by simp at hi, fun i j hi => by simp at hi⟩
 | i :: r, t, h, t1, h1, hpw, hs, ht => by
  simp only [aNs] at hs
  have hpw' := List.pairwise_cons.1 hpw
  cases ho : ops[i]? with
  | none => rw [ho] at hs; cases hs
  | some o =>
   rw [ho] at hs
   dsimp only at hs
   have hdi := dstAt_eq ho
   -- the rest, from what the first leaves
   have rest : ∀ {v : Value} {t2 : T Value} {h2 : AH} {bi : Nat}, aPut n t o.dst v = some t2 → aNs P n ops r t2 h2 = some (t1, h1) → h.next ≤ h2.next → T.Ok (h2.next) → (∀ b, b < h.next → h2.m.get b = h.m.get b) →
       ((h.next ≤ bi / 2 ∧ bi / 2 < h2.next ∧ bi % 2 = 0) ∨ bi = 2 * i + 1) → (∀ t1 h1, (∀ d, o.dst = some d → vt t1 d = v) → h2.next ≤ h1.next → (∀ b, b < h2.next → h1.m.get b = h2.m.get b) → NFact P n ops o t h t1 h1 (bi / 2)) → (opK o.op = 3 → aWant n t ops o = true → bi % 2 = 0) →
       (h.next ≤ h1.next ∧ T.Ok (h1.next) ∧ ∀ b, b < h.next → h1.m.get b = h.m.get b) ∧
       (∀ s, (∀ k, k ∈ i :: r → dstAt ops k ≠ some s) → vt t1 s = vt t s) ∧
       ∃ b : Nat → Nat, (∀ k, k ∈ i :: r → ((h.next ≤ b k / 2 ∧ b k / 2 < h1.next ∧ b k % 2 = 0) ∨ b k = 2 * k + 1) ∧ ∃ o tt hh, ops[k]? = some o ∧ (∀ s, (∀ j, j ∈ i :: r → j < k → dstAt ops j ≠ some s) → vt tt s = vt t s) ∧
         (∀ s j, j ∈ i :: r → j < k → dstAt ops j = some s → vt tt s = vt t1 s) ∧ NFact P n ops o tt hh t1 h1 (b k / 2) ∧ (opK o.op = 3 → aWant n tt ops o = true → b k % 2 = 0)) ∧ (∀ k j, k ∈ i :: r → j ∈ i :: r → k ≠ j → b k ≠ b j) := by
     intro v t2 h2 bi hput hrest hle ht2 hget hbi hfact hpar
     have hv := vt_put hput hn
     obtain ⟨⟨a1, a2, a3⟩, a4, b, a5, a6⟩ := aNs_spec sp hn r hpw'.2 hrest ht2
     have hdst : ∀ d, o.dst = some d → vt t1 d = v := by
       intro d hd
       rw [a4 d (fun k hk hkd => by
         have := (sp.dst i d (by rw [hdi]; exact hd)).2 k hkd
         have := hpw'.1 k hk
         omega), hv, if_pos hd]
     refine ⟨⟨Nat.le_trans hle a1, a2, fun b hb => (a3 b (by omega)).trans (hget b hb)⟩, fun s hs => ?_, fun k => if k = i then bi else b k, fun k hk => ?_, fun k j hk hj hkj => ?_⟩
     · rw [a4 s (fun k hk => hs k (List.mem_cons_of_mem _ hk)), hv, if_neg (fun e => hs i (by simp) (by rw [hdi]; exact e))]
     · by_cases e : k = i
       · subst e
         simp only [if_true]
         refine ⟨?_, o, t, h, ho, fun s _ => rfl, fun s j hj hlt hd => ?_, hfact t1 h1 hdst a1 a3, hpar⟩
         · rcases hbi with hbi | hbi
           · exact .inl ⟨hbi.1, by omega, hbi.2.2⟩
           · exact .inr hbi
         · rcases List.mem_cons.1 hj with hj | hj
           · omega
           · have := hpw'.1 j hj; omega
       · have hkr : k ∈ r := by rcases List.mem_cons.1 hk with hk | hk; exact (e hk).elim; exact hk
         dsimp only
         rw [if_neg e]
         obtain ⟨c1, o', tt, hh, c2, c3, c4, c5⟩ := a5 k hkr
         refine ⟨by rcases c1 with c1 | c1; exact .inl ⟨by omega, c1.2⟩; exact .inr c1, o', tt, hh, c2, fun s hs => ?_, fun s j hj hlt hd => ?_, c5⟩
         · rw [c3 s (fun j hj hlt => hs j (List.mem_cons_of_mem _ hj) hlt), hv, if_neg (fun e2 => hs i (by simp) (hpw'.1 k hkr) (by rw [hdi]; exact e2))]
         · rcases List.mem_cons.1 hj with hj | hj
           · subst hj
             have hod : o.dst = some s := by rw [← hdi]; exact hd
             rw [c3 s (fun j2 hj2 _ hd2 => by
               have := (sp.dst j s hd).2 j2 hd2
               have := hpw'.1 j2 hj2
               omega), hv, if_pos hod, hdst s hod]
           · exact c4 s j hj hlt hd
     · dsimp only
       by_cases e : k = i
       · by_cases e2 : j = i
         · exact (hkj (e.trans e2.symm)).elim
         · have hjr : j ∈ r := by rcases List.mem_cons.1 hj with hj | hj; exact (e2 hj).elim; exact hj
           rw [if_pos e, if_neg e2]
           have c1 := (a5 j hjr).1
           have := hpw'.1 j hjr
           rcases hbi with hbi | hbi <;> rcases c1 with c1 | c1 <;> omega
       · have hkr : k ∈ r := by rcases List.mem_cons.1 hk with hk | hk; exact (e hk).elim; exact hk
         rw [if_neg e]
         by_cases e2 : j = i
         · rw [if_pos e2]
           have c1 := (a5 k hkr).1
           have := hpw'.1 k hkr
           rcases hbi with hbi | hbi <;> rcases c1 with c1 | c1 <;> omega
         · have hjr : j ∈ r := by rcases List.mem_cons.1 hj with hj | hj; exact (e2 hj).elim; exact hj
           rw [if_neg e2]
           exact a6 k j hkr hjr hkj
   split at hs
   · rename_i hw
     split at hs
     · rename_i v h2 hN
       split at hs
       · rename_i t2 hput
         unfold aN at hN
         split at hN
         · rename_i hk
           split at hN
           · rename_i al mk hal
             split at hN
             · rename_i b h3 hna
               cases hN
               unfold AH.newAl at hna
               split at hna
               · rename_i _
                 cases hna
                 have e2 : 2 * h.next / 2 = h.next := by omega
                 refine rest (bi := 2 * h.next) hput hs (Nat.le_succ _) trivial (fun b hb => ?_) (.inl ⟨by rw [e2]; exact Nat.le_refl _, by rw [e2]; exact Nat.lt_succ_self _, by omega⟩) (fun t1 h1 hd hle hg => .inl ⟨hw, .inr ⟨hk, al, mk, hal, by rw [e2]; exact Nat.lt_of_lt_of_le (Nat.lt_succ_self _) hle, ?_, by rw [e2]; exact hd⟩⟩) (fun _ _ => by omega)
                 · show (h.m.set h.next (some al.obj)).get b = _
                   rw [T.get_set, if_neg (by omega)]
                 · rw [e2, hg h.next (Nat.lt_succ_self _)]
                   show (h.m.set h.next (some al.obj)).get h.next = _
                   rw [T.get_set, if_pos rfl]
               · cases hna
             · cases hN
           · cases hN
         · rename_i hk
           split at hN
           · cases hN
           · rename_i hk0
             split at hN
             · rename_i v' hv
               cases hN
               have hk12 : opK o.op = 1 ∨ opK o.op = 2 := by have := opK_le o.op; omega
               exact rest (bi := 2 * i + 1) hput hs (Nat.le_refl _) ht (fun _ _ => rfl) (.inr rfl) (fun t1 h1 hd _ _ => .inl ⟨hw, .inl ⟨hk12, _, hv, hd⟩⟩) (fun hk3 _ => by omega)
             · cases hN
       · cases hs
     · cases hs
   · rename_i hw
     split at hs
     · rename_i t2 hput
       exact rest (bi := 2 * i + 1) hput hs (Nat.le_refl _) ht (fun _ _ => rfl) (.inr rfl) (fun t1 h1 hd _ _ => .inr ⟨by simpa using hw, hd⟩) (fun _ hw2 => absurd hw2 (by simpa using hw))
     · cases hs
end
end Go.X
