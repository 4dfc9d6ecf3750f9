/- Objects: a struct behind a pointer, one of whose fields is an array of its own that changes. -/
import Derived.Test.YtmojccilbgjngaaCoreG
namespace Go.Arm
open Go Go.RowKit

section
variable {α β : Type} [Rep α] [Rep β]
def Shell (set : α → List β → α) (off : Nat) (s : St) (p : Value) (bat len : Nat) (x : α) : Prop :=
 ∃ b cs, p = .pointer (some ⟨b, 0, none⟩) ∧ AtRO s b 0 cs ∧ cs[off]? = some (.slice (some ⟨bat, 0, none⟩) len len) ∧
  ∀ s' ys, Le s s' → V s' (.slice (some ⟨bat, 0, none⟩) len len) ys → Rep.rel s' cs (set x ys)
variable {set : α → List β → α} {off : Nat} {s s' : St} {p : Value} {bat len : Nat} {x : α} {E : TypeId}
theorem Shell.mono (h : Shell set off s p bat len x) (l : Le s s') : Shell set off s' p bat len x := by
 obtain ⟨b, cs, e, h1, h2, h3⟩ := h
 exact ⟨b, cs, e, h1.mono l, h2, fun s'' ys l' => h3 s'' ys (l.trans l')⟩
theorem Shell.ptr {ys : List β} (h : Shell set off s p bat len x) (hv : V s (.slice (some ⟨bat, 0, none⟩) len len) ys) : Ptr s p (set x ys) := by
 obtain ⟨b, cs, e, h1, h2, h3⟩ := h
 exact ⟨b, 0, cs, e, h3 s ys (Le.refl s) hv, h1⟩
theorem Shell.at {ys : List β} (h : Shell set off s p bat len x) (hs : ∀ zs, set (set x ys) zs = set x zs) (ha : Arr s bat E len ys) : Shell set off s p bat ys.length (set x ys) := by
 obtain ⟨b, cs, e, h1, h2, h3⟩ := h
 have hl := ha.1
 subst hl
 exact ⟨b, cs, e, h1, h2, fun s'' zs l hv => by rw [hs]; exact h3 s'' zs l hv⟩
theorem Arr.self {ys : List β} (ha : Arr s bat E len ys) : Arr s bat E ys.length ys := by
 have hl := ha.1; subst hl; exact ha
theorem Arr.back {ys zs : List β} (ha : Arr s bat E len ys) (h : Arr s' bat E ys.length zs) : Arr s' bat E len zs := by
 have hl := ha.1; subst hl; exact h

def ObjO (set : α → List β → α) (off : Nat) (proj : α → List β) (E : TypeId) (B : Nat) (s : St) (a : Value) (o : Option α) : Prop :=
 (o = none ∧ a = .pointer none) ∨ ∃ x bat, o = some x ∧ B ≤ bat ∧ Shell set off s a bat (proj x).length x ∧ Arr s bat E (proj x).length (proj x)
theorem ObjO.open {proj : α → List β} {B : Nat} {a : Value} {o : Option α} (h : ObjO set off proj E B s a o) {x : α} (hx : o = some x) :
  ∃ bat, B ≤ bat ∧ Shell set off s a bat (proj x).length x ∧ Arr s bat E (proj x).length (proj x) := by
 rcases h with ⟨hn, _⟩ | ⟨x', bat, hx', h⟩
 ·rw [hn] at hx; cases hx
 ·rw [hx'] at hx; cases hx; exact ⟨bat, h⟩

def RetM (M : Nat → Prop) (s : St) (Φ : Value → St → Prop) : Ending → World → Prop := fun e w' => ∃ v s', e = .returned v ∧ s'.w = w' ∧ Tch M s s' ∧ Φ v s'

def CellRO (s : St) (q v : Value) : Prop := ∃ b o, q = .pointer (some ⟨b, o, none⟩) ∧ AtRO s b o [v]
theorem CellRO.mono {q v : Value} (h : CellRO s q v) (l : Le s s') : CellRO s' q v := by
 obtain ⟨b, o, e, h⟩ := h; exact ⟨b, o, e, h.mono l⟩
theorem Shell.some (h : Shell set off s p bat len x) : ∃ a, p = .pointer (some a) := by obtain ⟨b, cs, e, _⟩ := h; exact ⟨_, e⟩
end

section
variable {P : Program} {n : Nat} {Q : Post} {f : Fr} {w : World} {ops : Array Oper} {rest : List Oper} {s : St}
variable {d : Nat} {ty : TypeId} {pos : String} {aft : Array Edge} {α β : Type} [Rep α] [Rep β]

theorem L_nilCheck_shell {set : α → List β → α} {off bat len : Nat} {x : α} {o : Operand} {p : Value} (hx : ev f o = p) (hS : Shell set off s p bat len x) (hd : d < n)
  (h : L P n ops Q rest (upd f d p) w) : L P n ops Q (⟨some d, .nilCheck o, ty, pos, aft, none⟩ :: rest) f w := by
 obtain ⟨a, rfl⟩ := hS.some
 exact L_nilCheck hx hd h

theorem L_fieldAddr_shell {set : α → List β → α} {off bat len : Nat} {x : α} {T : TypeId} {k sz : Nat} {ft : TypeId} {o : Operand} {p : Value} (hT : fieldAt P T k = some (off, ft, sz + 1)) (hx : ev f o = p) (hS : Shell set off s p bat len x) (hd : d < n)
  (h : ∀ q, CellRO s q (.slice (some ⟨bat, 0, none⟩) len len) → L P n ops Q rest (upd f d q) w) : L P n ops Q (⟨some d, .fieldAddr T o k, ty, pos, aft, none⟩ :: rest) f w := by
 obtain ⟨b, cs, rfl, h1, h2, _⟩ := hS
 refine L_val rfl (fun k e => by cases e; exact hd) (run_fieldAddr hT hx) (h _ ⟨b, 0 + off, rfl, ?_⟩)
 intro j hj
 simp only [List.length_singleton] at hj
 have : j = 0 := by omega
 subst this
 obtain ⟨hlt, he⟩ := List.getElem?_eq_some_iff.1 h2
 have := h1 off hlt
 rw [he] at this
 simpa using this

theorem L_load_cell {T : TypeId} {dd : TypeDesc} {o : Operand} {q v : Value} (hT : P.underlying T = some dd) (ha : aggDesc dd = false) (hx : ev f o = q) (hC : CellRO s q v) (hd : d < n)
  (h : L P n ops Q rest (upd f d v) s.w) : L P n ops Q (⟨some d, .load T o, ty, pos, aft, none⟩ :: rest) f s.w := by
 obtain ⟨b, o', rfl, hat⟩ := hC
 refine L_val (v := v) rfl (fun k e => by cases e; exact hd) ?_ h
 have hc := (hat 0 (by simp)).1
 simp only [Nat.add_zero, List.getElem_cons_zero] at hc
 have hl : (loadVar T ⟨b, o', none⟩).run P s.w = .ok v s.w := by
  unfold loadVar isAgg
  simp only [Sem.run_bind, run_underlying hT, Result.andThen_ok]
  cases dd <;> simp_all [aggDesc]
 simp [execOp, Instr.loadAt, Instr.sureAddr, hx, hl]

theorem L_box_raw {T : TypeId} {o : Operand} {cs : List Value} (hx : ev f o = .agg cs.toArray) (hd : d < n)
  (h : ∀ s' b, Ext s s' → AtRO s' b 0 cs → L P n ops Q rest (upd f d (.pointer (some ⟨b, 0, none⟩))) s'.w) :
  L P n ops Q (⟨some d, .box T o, ty, pos, aft, none⟩ :: rest) f s.w := by
 refine L_val (v := .pointer (some ⟨s.w.heap.size, 0, none⟩)) rfl (fun k e => by cases e; exact hd) (w' := s.w.alloc (.cells cs.toArray T)) ?_ ?_
 ·simp [execOp, Instr.box, hx, newVar, newRow, Value.cells]
 ·exact h (s.new (.cells cs.toArray T) cs.length) _ (Ext.new _ _ _) (atRO_new s cs T _ 0 cs.length cs (by simp) (by omega))

theorem L_calls_mut {k : FuncId} {args : Array Operand} {tys : Array TypeId} {vs : Array Value} {M : Nat → Prop} {Φ : Value → St → Prop} (hk : Callee P k) (ha : args.map (ev f) = vs)
  (hc : Calls P k vs s.w (RetM M s Φ)) (hd : d < n) (h : ∀ v s', Tch M s s' → Φ v s' → L P n ops Q rest (upd f d v) s'.w) :
  L P n ops Q (⟨some d, .call ⟨.value (.func k), args, tys⟩, ty, pos, aft, none⟩ :: rest) f s.w := by
 refine L_calls' hk ha hc hd ?_
 rintro e w' ⟨v, s', rfl, rfl, h1, h2⟩
 exact ⟨v, rfl, h v s' h1 h2⟩

theorem Grows.tchM {B : Nat} {E : TypeId} {v v' : Value} {zs : List α} {s0 s' : St} {M : Nat → Prop} (g : Grows s B E v v' zs s') {xs : List α} (h : Bld s B E v xs) (hE : Tch M s0 s) (hB : s0.w.heap.size ≤ B) : Tch M s0 s' :=
 Tch.trans hE g.tch (fun _ hb => .inr (Nat.le_trans hB (h.lt hb).1))
end
end Go.Arm
