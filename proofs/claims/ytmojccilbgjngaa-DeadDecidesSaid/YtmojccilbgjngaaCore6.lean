/- Slice expressions, calls, function values, results, fields. -/
import Derived.Test.YtmojccilbgjngaaCore5
namespace Go.Arm
open Go Go.RowKit

section
variable {P : Program} {n : Nat} {Q : Post} {f : Fr} {w : World} {ops : Array Oper} {rest : List Oper} {s : St}
variable {d : Nat} {ty : TypeId} {pos : String} {aft : Array Edge} {α β : Type} [Rep α] [Rep β]

def cut (xs : List α) (lo hi : Int) : Option (List α) := if 0 ≤ lo ∧ lo ≤ hi ∧ hi ≤ xs.length then some ((xs.take hi.toNat).drop lo.toNat) else none

theorem RowAt.sub {b o : Nat} {xs : List α} (h : RowAt s b o xs) (l k : Nat) (hk : k ≤ xs.length) : RowAt s b (o + l * Rep.size α) ((xs.take k).drop l) := by
 intro i hi
 simp only [List.length_drop, List.length_take] at hi
 obtain ⟨cs, h1, h2⟩ := h (l + i) (by omega)
 refine ⟨cs, ?_, ?_⟩
 ·rw [List.getElem_drop, List.getElem_take]; exact h1
 ·rw [Nat.add_assoc, ← Nat.add_mul]; exact h2

theorem V_cut {xs ys : List α} {base : Option Addr} {cap : Nat} {lo hi : Int} (hV : V s (.slice base xs.length cap) xs) (hc : cut xs lo hi = some ys) :
  V s (.slice (if cap = lo.toNat then base else base.map (·.add (lo.toNat * Rep.size α))) (hi.toNat - lo.toNat) (cap - lo.toNat)) ys ∧ 0 ≤ lo ∧ lo ≤ hi ∧ hi ≤ xs.length := by
 unfold cut at hc
 split at hc
 ·rename_i hb
  obtain ⟨h0, h1, h2⟩ := hb
  cases hc
  obtain ⟨base', cap', e, hcap, hr⟩ := hV.slice
  cases e
  refine ⟨?_, h0, h1, h2⟩
  refine Vslice (by simp; omega) (by simp; omega) ?_
  intro hne
  have hne' : xs ≠ [] := by intro e; subst e; simp at hne
  obtain ⟨b, o, rfl, hrow⟩ := hr hne'
  have hlt : lo.toNat < hi.toNat := by
   rcases Nat.lt_or_ge lo.toNat hi.toNat with h | h
   ·exact h
   ·exfalso; apply hne; apply List.eq_nil_of_length_eq_zero; simp; omega
  rw [if_neg (by omega)]
  exact ⟨b, _, by simp [Addr.add_eq], hrow.sub lo.toNat hi.toNat (by omega)⟩
 ·cases hc

theorem L_slice_h {T E : TypeId} {x h : Operand} {v : Value} {xs ys : List α} {kh : IntKind} {hi : Int} (hT : P.underlying T = some (.slice E)) (hE : (P.info? E).map (·.size) = some (Rep.size α))
  (hx : ev f x = v) (hV : V s v xs) (hh : ev f h = .int kh hi) (hc : cut xs 0 hi = some ys) (hd : d < n)
  (hk : ∀ v, V s v ys → L P n ops Q rest (upd f d v) w) : L P n ops Q (⟨some d, .slice T x none (some h) none, ty, pos, aft, none⟩ :: rest) f w := by
 obtain ⟨base, cap, rfl, hcap, _⟩ := hV.slice
 obtain ⟨hy, h0, h1, h2⟩ := V_cut hV hc
 refine L_val rfl (fun k e => by cases e; exact hd) ?_ (hk _ hy)
 have a1 : hi ≤ (cap : Int) := by omega
 simp [execOp, Instr.sliceAt, Instr.slice, Instr.sliceBounds, Instr.sliceBound, run_underlying hT, hx, hh, asIntOf, run_sizeOf hE, a1, h1]

theorem L_slice_l {T E : TypeId} {x l : Operand} {v : Value} {xs ys : List α} {kl : IntKind} {lo : Int} (hT : P.underlying T = some (.slice E)) (hE : (P.info? E).map (·.size) = some (Rep.size α))
  (hx : ev f x = v) (hV : V s v xs) (hl : ev f l = .int kl lo) (hc : cut xs lo xs.length = some ys) (hd : d < n)
  (hk : ∀ v, V s v ys → L P n ops Q rest (upd f d v) w) : L P n ops Q (⟨some d, .slice T x (some l) none none, ty, pos, aft, none⟩ :: rest) f w := by
 obtain ⟨base, cap, rfl, hcap, _⟩ := hV.slice
 obtain ⟨hy, h0, h1, h2⟩ := V_cut hV hc
 refine L_val rfl (fun k e => by cases e; exact hd) ?_ (hk _ hy)
 simp [execOp, Instr.sliceAt, Instr.slice, Instr.sliceBounds, Instr.sliceBound, run_underlying hT, hx, hl, asIntOf, run_sizeOf hE, h0, h1]

/-! Calls. -/

structure Callee (P : Program) (k : FuncId) : Prop where
 is : ∃ fn, P.funcs[k]? = some fn ∧ (fn.name == "runtime.NumGoroutine") = false ∧ fn.body.isNone = false

def Ret (s : St) (Φ : Value → St → Prop) : Ending → World → Prop := fun e w' => ∃ v s', e = .returned v ∧ s'.w = w' ∧ Ext s s' ∧ Φ v s'

theorem run_callFunc {k : FuncId} (hk : Callee P k) (args : Array Value) : (callFunc k args).run P w = .ok (.enter k args) w := by
 obtain ⟨fn, h1, h2, h3⟩ := hk.is
 have e2 : ¬ fn.name = "runtime.NumGoroutine" := by simpa using h2
 have e3 : ¬ fn.body = none := by intro e; rw [e] at h3; simp at h3
 simp [callFunc, h1, e2, e3]

theorem L_calls {k : FuncId} {args : Array Operand} {tys : Array TypeId} {vs : Array Value} {Φ : Value → St → Prop} (hk : Callee P k) (ha : args.map (ev f) = vs)
  (hc : Calls P k vs s.w (Ret s Φ)) (hd : d < n) (h : ∀ v s', Ext s s' → Φ v s' → L P n ops Q rest (upd f d v) s'.w) :
  L P n ops Q (⟨some d, .call ⟨.value (.func k), args, tys⟩, ty, pos, aft, none⟩ :: rest) f s.w := by
 refine L_call rfl (fun k e => by cases e; exact hd) (w' := s.w) (k := k) (args := vs) ?_ hc ?_
 ·simp [execOp, resolve, ev, Deferred.ofValue, invoke, ha, run_callFunc hk]
 ·rintro e w'' ⟨v, s', rfl, rfl, h1, h2⟩
  exact ⟨v, rfl, h v s' h1 h2⟩

theorem L_calls' {k : FuncId} {args : Array Operand} {tys : Array TypeId} {vs : Array Value} {R : Ending → World → Prop} (hk : Callee P k) (ha : args.map (ev f) = vs)
  (hc : Calls P k vs w R) (hd : d < n) (h : ∀ e w', R e w' → ∃ v, e = .returned v ∧ L P n ops Q rest (upd f d v) w') :
  L P n ops Q (⟨some d, .call ⟨.value (.func k), args, tys⟩, ty, pos, aft, none⟩ :: rest) f w := by
 refine L_call rfl (fun k e => by cases e; exact hd) (w' := w) (k := k) (args := vs) ?_ hc h
 simp [execOp, resolve, ev, Deferred.ofValue, invoke, ha, run_callFunc hk]

theorem L_callv {k : FuncId} {x : Operand} {cap : Array Value} {args : Array Operand} {tys : Array TypeId} {vs : Array Value} {Φ : Value → St → Prop} (hk : Callee P k)
  (hx : ev f x = .func (.func k) #[] cap) (ha : args.map (ev f) = vs)
  (hc : Calls P k (vs ++ cap) s.w (Ret s Φ)) (hd : d < n) (h : ∀ v s', Ext s s' → Φ v s' → L P n ops Q rest (upd f d v) s'.w) :
  L P n ops Q (⟨some d, .call ⟨.value x, args, tys⟩, ty, pos, aft, none⟩ :: rest) f s.w := by
 refine L_call rfl (fun k e => by cases e; exact hd) (w' := s.w) (k := k) (args := vs ++ cap) ?_ hc ?_
 ·simp [execOp, resolve, hx, Deferred.ofValue, invoke, ha, run_callFunc hk]
 ·rintro e w'' ⟨v, s', rfl, rfl, h1, h2⟩
  exact ⟨v, rfl, h v s' h1 h2⟩

def Fn1 (P : Program) (s : St) (v : Value) (p : α → Option β) : Prop :=
 ∃ k cap, v = .func (.func k) #[] cap ∧ Callee P k ∧
  ∀ s' vx x r, Le s s' → V s' vx x → p x = some r → Calls P k (#[vx] ++ cap) s'.w (Ret s' fun v s'' => V s'' v r)

theorem Fn1.mono {v : Value} {p : α → Option β} {s' : St} (h : Fn1 P s v p) (l : Le s s') : Fn1 P s' v p := by
 obtain ⟨k, cap, e, hk, h⟩ := h
 exact ⟨k, cap, e, hk, fun s'' vx x r l' => h s'' vx x r (l.trans l')⟩

def Fn0 (P : Program) (s : St) (v : Value) (p : Option β) : Prop :=
 ∃ k cap, v = .func (.func k) #[] cap ∧ Callee P k ∧ ∀ s' r, Le s s' → p = some r → Calls P k cap s'.w (Ret s' fun v s'' => V s'' v r)

theorem Fn0.mono {v : Value} {p : Option β} {s' : St} (h : Fn0 P s v p) (l : Le s s') : Fn0 P s' v p := by
 obtain ⟨k, cap, e, hk, h⟩ := h
 exact ⟨k, cap, e, hk, fun s'' r l' => h s'' r (l.trans l')⟩

theorem L_call1 {x y : Operand} {tys : Array TypeId} {fv vy : Value} {p : α → Option β} {a : α} {r : β} (hx : ev f x = fv) (hF : Fn1 P s fv p) (hy : ev f y = vy) (hV : V s vy a) (hr : p a = some r) (hd : d < n)
  (h : ∀ v s', Ext s s' → V s' v r → L P n ops Q rest (upd f d v) s'.w) :
  L P n ops Q (⟨some d, .call ⟨.value x, #[y], tys⟩, ty, pos, aft, none⟩ :: rest) f s.w := by
 obtain ⟨k, cap, rfl, hk, hc⟩ := hF
 exact L_callv hk hx (vs := #[vy]) (by simp [hy]) (hc s vy a r (Le.refl s) hV hr) hd h

theorem L_makeFunc {k : FuncId} {captured : Array Operand} {vs : Array Value} (ha : captured.map (ev f) = vs) (hd : d < n)
  (h : L P n ops Q rest (upd f d (.func (.func k) #[] vs)) w) : L P n ops Q (⟨some d, .makeFunc (.func k) #[] captured, ty, pos, aft, none⟩ :: rest) f w :=
 L_val (v := .func (.func k) #[] vs) rfl (fun k e => by cases e; exact hd) (by simp [execOp, Instr.makeFunc, ha]) h

theorem args0 : (#[] : Array Operand).map (ev f) = #[] := by simp
theorem args1 {a : Operand} {x : Value} (h : ev f a = x) : #[a].map (ev f) = #[x] := by simp [h]
theorem args2 {a b : Operand} {x y : Value} (h : ev f a = x) (k : ev f b = y) : #[a, b].map (ev f) = #[x, y] := by simp [h, k]
theorem args3 {a b c : Operand} {x y z : Value} (h : ev f a = x) (k : ev f b = y) (l : ev f c = z) : #[a, b, c].map (ev f) = #[x, y, z] := by simp [h, k, l]
/-! Fields. -/

def FieldOf (proj : α → β) (off : Nat) : Prop := ∀ s cs x, Rep.rel s cs x → ∃ ks, Rep.rel s ks (proj x) ∧ ∀ j (h : j < ks.length), cs[off + j]? = some ks[j]

def fieldAt (P : Program) (T : TypeId) (k : Nat) : Option (Nat × TypeId × Nat) :=
 match P.underlying T with
 | some (.struct fields) => match fields[k]? with
  | some fd => match P.info? fd.type with
   | some i => some (fd.offset, fd.type, i.size)
   | none => none
  | none => none
 | _ => none

theorem fieldAt_some {T : TypeId} {k off sz : Nat} {ft : TypeId} (h : fieldAt P T k = some (off, ft, sz)) :
  ∃ fields fd, P.underlying T = some (.struct fields) ∧ fields[k]? = some fd ∧ fd.offset = off ∧ fd.type = ft ∧ (P.info? ft).map (·.size) = some sz := by
 unfold fieldAt at h
 split at h
 ·rename_i fields hu
  split at h
  ·rename_i fd hf
   split at h
   ·rename_i i hi
    simp only [Option.some.injEq, Prod.mk.injEq] at h
    obtain ⟨h1, h2, h3⟩ := h
    exact ⟨fields, fd, hu, hf, h1, h2, by rw [← h2, hi]; simp [h3]⟩
   ·cases h
  ·cases h
 ·cases h

theorem AtRO.field {b o off : Nat} {cs ks : List Value} (h : AtRO s b o cs) (hk : ∀ j (h : j < ks.length), cs[off + j]? = some ks[j]) : AtRO s b (o + off) ks := by
 intro j hj
 obtain ⟨h1, h2⟩ := List.getElem?_eq_some_iff.1 (hk j hj)
 have := h (off + j) h1
 rw [h2, show o + (off + j) = o + off + j by omega] at this
 exact this

theorem L_fieldAddr {T : TypeId} {k off sz : Nat} {ft : TypeId} {x : Operand} {p : Value} {a : α} {proj : α → β} (hT : fieldAt P T k = some (off, ft, sz + 1)) (hF : FieldOf proj off) (hx : ev f x = p) (hP : Ptr s p a) (hd : d < n)
  (h : ∀ q, Ptr s q (proj a) → L P n ops Q rest (upd f d q) w) : L P n ops Q (⟨some d, .fieldAddr T x k, ty, pos, aft, none⟩ :: rest) f w := by
 obtain ⟨fields, fd, h1, h2, h3, h4, h5⟩ := fieldAt_some hT
 obtain ⟨b, o, cs, rfl, hrel, hat⟩ := hP
 obtain ⟨ks, hk1, hk2⟩ := hF _ _ _ hrel
 refine L_val (v := .pointer (some ⟨b, o + off, none⟩)) rfl (fun k e => by cases e; exact hd) ?_ (h _ ⟨b, _, ks, rfl, hk1, hat.field hk2⟩)
 subst h4
 simp [execOp, Instr.fieldAt, run_underlying h1, h2, Instr.sureAddr, hx, fieldPlace, run_sizeOf h5, h3, Addr.add_eq]

end
end Go.Arm
