/- More operations: bools, pointers as data, stores that are the last, max and min. -/
import Derived.Test.YtmojccilbgjngaaCoreA
namespace Go.Arm
open Go Go.RowKit

structure Ref (α : Type) where
 x : α
instance {α : Type} [Rep α] : Rep (Ref α) where
 size := 1
 agg := false
 rel s cs r := ∃ v, cs = [v] ∧ Ptr s v r.x
 len := by rintro s cs r ⟨v, rfl, _⟩; rfl
 mono := by rintro s s' cs r l ⟨v, e, h⟩; exact ⟨v, e, h.mono l⟩
 one := by
  rintro s cs r ⟨v, rfl, b, o, ks, rfl, _⟩ u hu
  simp at hu; rw [hu]; rfl
 single _ := rfl
theorem Ptr.toV {α : Type} [Rep α] {s : St} {v : Value} {x : α} (h : Ptr s v x) : V s v (⟨x⟩ : Ref α) := ⟨[v], ⟨v, rfl, h⟩, rfl⟩
theorem V.toPtr {α : Type} [Rep α] {s : St} {v : Value} {r : Ref α} (h : V s v r) : Ptr s v r.x := by
 obtain ⟨cs, ⟨u, rfl, hp⟩, rfl⟩ := h; exact hp

section
variable {P : Program} {n : Nat} {Q : Post} {f : Fr} {w : World} {ops : Array Oper} {rest : List Oper} {s : St}
variable {d : Nat} {ty : TypeId} {pos : String} {aft : Array Edge} {α β : Type} [Rep α] [Rep β]

theorem L_bne {T T' : TypeId} {x y : Operand} {a b : Bool} (hT : P.underlying T = some .bool) (hx : ev f x = .bool a) (hy : ev f y = .bool b) (hd : d < n)
  (h : L P n ops Q rest (upd f d (.bool (!(a == b)))) w) : L P n ops Q (⟨some d, .binOp .neq T x y T', ty, pos, aft, none⟩ :: rest) f w :=
 L_val (v := .bool (!(a == b))) rfl (fun k e => by cases e; exact hd) (by
  have := run_equal_bool (P := P) w T a b hT
  simp [execOp, hx, hy, eqGuard, binOp, this]) h

theorem L_max {x y : Operand} {tys : Array TypeId} {k : IntKind} {a b : Int} (hx : ev f x = .int k a) (hy : ev f y = .int k b) (hd : d < n)
  (h : L P n ops Q rest (upd f d (.int k (max a b))) w) : L P n ops Q (⟨some d, .call ⟨.builtin .max, #[x, y], tys⟩, ty, pos, aft, none⟩ :: rest) f w :=
 L_val (v := .int k (max a b)) rfl (fun k e => by cases e; exact hd) (by
  have : (if b > a then b else a) = max a b := by split <;> omega
  simp only [execOp, resolve, invoke, builtin, Builtin.max_, List.map_toArray, List.map_cons, List.map_nil, hx, hy, Sem.run_bind, Sem.run_pure, Result.andThen_ok, List.foldlM_cons, List.foldlM_nil, Builtin.max2, this]) h
theorem L_min {x y : Operand} {tys : Array TypeId} {k : IntKind} {a b : Int} (hx : ev f x = .int k a) (hy : ev f y = .int k b) (hd : d < n)
  (h : L P n ops Q rest (upd f d (.int k (min a b))) w) : L P n ops Q (⟨some d, .call ⟨.builtin .min, #[x, y], tys⟩, ty, pos, aft, none⟩ :: rest) f w :=
 L_val (v := .int k (min a b)) rfl (fun k e => by cases e; exact hd) (by
  have : (if b < a then b else a) = min a b := by split <;> omega
  simp only [execOp, resolve, invoke, builtin, Builtin.min_, List.map_toArray, List.map_cons, List.map_nil, hx, hy, Sem.run_bind, Sem.run_pure, Result.andThen_ok, List.foldlM_cons, List.foldlM_nil, Builtin.min2, this]) h

theorem L_store_ro {T E : TypeId} {x a : Operand} {v : Value} {b : Nat} {old y : α} (hT : Ty P T α) (ha : ev f a = .pointer (some ⟨b, 0, none⟩)) (hx : ev f x = v) (hV : V s v y) (hM : Var s b E old)
  (h : ∀ s', Tch (fun k => k = b) s s' → Ptr s' (.pointer (some ⟨b, 0, none⟩)) y → L P n ops Q rest f s'.w) :
  L P n ops Q (⟨none, .store T a x, ty, pos, aft, none⟩ :: rest) f s.w := by
 refine L_store hT ha hx hV hM (fun s' t hv => ?_)
 obtain ⟨s'', e, t', hp, _⟩ := hv.ptr
 rw [← e]
 exact h s'' (t.trans t' (fun x hx => .inl hx)) hp

theorem L_seq {T T' : TypeId} {x y : Operand} {a b : Array Value} {r : Bool} (hx : ev f x = .agg a) (hy : ev f y = .agg b) (hg : P.eqGuardType P.depth T = false)
  (hr : (Op.equal T (.agg a) (.agg b)).run P w = .ok r w) (hd : d < n)
  (h : L P n ops Q rest (upd f d (.bool r)) w) : L P n ops Q (⟨some d, .binOp .eql T x y T', ty, pos, aft, none⟩ :: rest) f w :=
 L_val (v := .bool r) rfl (fun k e => by cases e; exact hd) (by simp [execOp, hx, hy, eqGuard, binOp, hg, hr]) h
theorem L_sne {T T' : TypeId} {x y : Operand} {a b : Array Value} {r : Bool} (hx : ev f x = .agg a) (hy : ev f y = .agg b) (hg : P.eqGuardType P.depth T = false)
  (hr : (Op.equal T (.agg a) (.agg b)).run P w = .ok r w) (hd : d < n)
  (h : L P n ops Q rest (upd f d (.bool (!r))) w) : L P n ops Q (⟨some d, .binOp .neq T x y T', ty, pos, aft, none⟩ :: rest) f w :=
 L_val (v := .bool (!r)) rfl (fun k e => by cases e; exact hd) (by simp [execOp, hx, hy, eqGuard, binOp, hg, hr]) h

theorem run_part {T : TypeId} {dd : TypeDesc} {cs : Array Value} {off : Nat} {v : Value} (hT : P.underlying T = some dd) (ha : aggDesc dd = false) (hv : cs[off]? = some v) : (part T cs off).run P w = .ok v w := by
 unfold part isAgg
 simp only [Sem.run_bind, run_underlying hT, Result.andThen_ok]
 cases dd <;> simp_all [aggDesc]

def plainEq (P : Program) (T : TypeId) (a b : Value) : Option Bool :=
 match P.underlying T, a, b with
 | some (.int _), .int k x, .int k' y => if k = k' then some (x == y) else none
 | some .bool, .bool x, .bool y => some (x == y)
 | _, _, _ => none
theorem run_plainEq {T : TypeId} {a b : Value} {r : Bool} {m : Nat} (h : plainEq P T a b = some r) : (Op.equalIn (m + 1) T a b).run P w = .ok r w := by
 unfold plainEq at h
 split at h
 ·rename_i hT
  split at h
  ·subst_vars; cases h; exact run_equalIn_int (P := P) w m T _ _ _ _ hT
  ·cases h
 ·rename_i hT
  cases h; exact run_equalIn_bool (P := P) w m T _ _ hT
 ·cases h
theorem plainEq_agg {T : TypeId} {a b : Value} {r : Bool} (h : plainEq P T a b = some r) : ∃ dd, P.underlying T = some dd ∧ aggDesc dd = false := by
 unfold plainEq at h
 split at h
 ·rename_i hT; exact ⟨_, hT, rfl⟩
 ·rename_i hT; exact ⟨_, hT, rfl⟩
 ·cases h
def fieldsEq (P : Program) (xs ys : Array Value) : List Field → Option Bool
 | [] => some true
 | f :: fs => if f.name = "_" then none else
  match xs[f.offset]?, ys[f.offset]? with
  | some a, some b => match plainEq P f.type a b, fieldsEq P xs ys fs with
   | some r, some q => some (r && q)
   | _, _ => none
  | _, _ => none
theorem run_fieldsEq {xs ys : Array Value} {m : Nat} : ∀ {fs : List Field} {r : Bool}, fieldsEq P xs ys fs = some r → (Op.eqFields (m + 1) xs ys fs).run P w = .ok r w
 | [], r, h => by cases h; simp [Op.eqFields]
 | fd :: fs, r, h => by
  unfold fieldsEq at h
  split at h
  ·cases h
  ·rename_i hn
   split at h
   ·rename_i a b ha hb
    split at h
    ·rename_i r1 r2 h1 h2
     cases h
     obtain ⟨dd, hT, hag⟩ := plainEq_agg h1
     have ih := run_fieldsEq (m := m) h2
     simp only [Op.eqFields, ne_eq, hn, not_false_eq_true, if_true, Sem.run_bind, run_part hT hag ha, run_part hT hag hb, Result.andThen_ok, run_plainEq h1]
     cases r1 <;> simp [ih]
    ·cases h
   ·cases h
theorem run_equal_plain {T : TypeId} {xs ys : Array Value} {fs : Array Field} {r : Bool} (hT : P.underlying T = some (.struct fs)) (hp : P.stoodInHeld T = false) (h : fieldsEq P xs ys fs.toList = some r) :
  (Op.equal T (.agg xs) (.agg ys)).run P w = .ok r w := by
 have hf : P.fieldsOf T = fs := by simp [Program.fieldsOf, hT]
 have := run_equalIn_struct (P := P) w 9999 T xs ys (by rw [hf]; exact hT) hp
 rw [hf, run_fieldsEq (m := 9998) h] at this
 exact this
end
end Go.Arm
namespace Go.Arm
theorem Parts_nil {f : Fr} {k : Nat} : Parts f [] [] k := trivial
theorem Parts_cons {f : Fr} {i k : Nat} {x : Operand} {r : List (Nat × Operand)} {v : Value} {vs : List Value} (e : i = k) (h : ev f x = v) (t : Parts f r vs (k + 1)) : Parts f ((i, x) :: r) (v :: vs) k := ⟨e, h, t⟩
end Go.Arm
namespace Go.Arm
section
variable {P : Program} {s : St} {α β : Type} [Rep α] [Rep β] {k : FuncId} {p : α → Option β} {q : Option β} {c1 c2 c3 : Value}
theorem Fn1.mk0 (hk : Callee P k) (h : ∀ s' vx x r, Le s s' → V s' vx x → p x = some r → Calls P k #[vx] s'.w (Ret s' fun v s'' => V s'' v r)) : Fn1 P s (.func (.func k) #[] #[]) p :=
 ⟨k, _, rfl, hk, fun s' vx x r a b c => by have := h s' vx x r a b c; simpa using this⟩
theorem Fn1.mk1 (hk : Callee P k) (h : ∀ s' vx x r, Le s s' → V s' vx x → p x = some r → Calls P k #[vx, c1] s'.w (Ret s' fun v s'' => V s'' v r)) : Fn1 P s (.func (.func k) #[] #[c1]) p :=
 ⟨k, _, rfl, hk, fun s' vx x r a b c => by have := h s' vx x r a b c; simpa using this⟩
theorem Fn1.mk2 (hk : Callee P k) (h : ∀ s' vx x r, Le s s' → V s' vx x → p x = some r → Calls P k #[vx, c1, c2] s'.w (Ret s' fun v s'' => V s'' v r)) : Fn1 P s (.func (.func k) #[] #[c1, c2]) p :=
 ⟨k, _, rfl, hk, fun s' vx x r a b c => by have := h s' vx x r a b c; simpa using this⟩
theorem Fn0.mk {cap : Array Value} (hk : Callee P k) (h : ∀ s' r, Le s s' → q = some r → Calls P k cap s'.w (Ret s' fun v s'' => V s'' v r)) : Fn0 P s (.func (.func k) #[] cap) q :=
 ⟨k, _, rfl, hk, h⟩
end
end Go.Arm
