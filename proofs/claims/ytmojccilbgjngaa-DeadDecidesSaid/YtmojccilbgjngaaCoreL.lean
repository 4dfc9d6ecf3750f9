/- An array of one's own whose elements are slices under construction. -/
import Derived.Test.YtmojccilbgjngaaCoreK
import Derived.Scope
import Derived.WalkSpells
namespace Go.Arm
open Go Go.RowKit

def ownB (bA : Nat) (vs : List Value) : Nat → Prop := fun k => k = bA ∨ ∃ (i : Nat) (v : Value), vs[i]? = some v ∧ own v k

structure ArrB {α : Type} [Rep α] (s : St) (B : Nat) (E E' : TypeId) (bA : Nat) (vs : List Value) (xss : List (List α)) : Prop where
 len : vs.length = xss.length
 low : B ≤ bA
 mem : Mut s bA E vs
 bld : ∀ (i : Nat) (v : Value) (xs : List α), vs[i]? = some v → xss[i]? = some xs → Bld s B E' v xs
 ne : ∀ (i : Nat) (v : Value), vs[i]? = some v → ¬ own v bA
 dis : ∀ (i j : Nat) (v u : Value), vs[i]? = some v → vs[j]? = some u → i ≠ j → ∀ k, own v k → ¬ own u k

structure ArrH {α : Type} [Rep α] (s : St) (B : Nat) (E E' : TypeId) (bA : Nat) (vs : List Value) (xss : List (List α)) (p : Nat) (v : Value) (ys : List α) : Prop where
 len : vs.length = xss.length
 low : B ≤ bA
 mem : Mut s bA E vs
 bld : ∀ (i : Nat) (v : Value) (xs : List α), i ≠ p → vs[i]? = some v → xss[i]? = some xs → Bld s B E' v xs
 new : Bld s B E' v ys
 ne : ∀ (i : Nat) (u : Value), (vs.set p v)[i]? = some u → ¬ own u bA
 dis : ∀ (i j : Nat) (u u' : Value), (vs.set p v)[i]? = some u → (vs.set p v)[j]? = some u' → i ≠ j → ∀ k, own u k → ¬ own u' k

section
variable {α : Type} [Rep α] {s s' : St} {B : Nat} {E E' : TypeId} {bA p : Nat} {vs : List Value} {xss : List (List α)} {v v0 : Value} {xs ys : List α} {M : Nat → Prop}

theorem ArrB.tch (h : ArrB s B E E' bA vs xss) (t : Tch M s s') (hn : ∀ k, ownB bA vs k → ¬ M k) : ArrB s' B E E' bA vs xss :=
 ⟨h.len, h.low, h.mem.tch t (hn bA (.inl rfl)), fun i v xs hv hx => (h.bld i v xs hv hx).tch t (fun b hb => hn b (.inr ⟨i, v, hv, hb⟩)), h.ne, h.dis⟩
theorem ArrB.ext (h : ArrB s B E E' bA vs xss) (t : Ext s s') : ArrB s' B E E' bA vs xss := h.tch t (fun _ _ x => x)
theorem ArrB.lt {b : Nat} (h : ArrB s B E E' bA vs xss) (hb : ownB bA vs b) : B ≤ b ∧ b < s.w.heap.size := by
 rcases hb with rfl | ⟨i, v, hv, hb⟩
 ·exact ⟨h.low, h.mem.lt⟩
 ·obtain ⟨hi, _⟩ := List.getElem?_eq_some_iff.1 hv
  obtain ⟨xs, hx⟩ : ∃ xs, xss[i]? = some xs := ⟨_, List.getElem?_eq_getElem (by rw [← h.len]; exact hi)⟩
  exact (h.bld i v xs hv hx).lt hb

theorem set_get {β : Type} {l : List β} {p i : Nat} {x y : β} (h : (l.set p x)[i]? = some y) : (i = p ∧ y = x) ∨ (i ≠ p ∧ l[i]? = some y) := by
 rw [List.getElem?_set] at h
 split at h
 ·split at h
  ·left; exact ⟨by omega, by cases h; rfl⟩
  ·cases h
 ·right; exact ⟨by omega, h⟩

theorem ArrH.tch (h : ArrH s B E E' bA vs xss p v ys) (t : Tch M s s') (hp : p < vs.length) (hn : ∀ k, ownB bA (vs.set p v) k → ¬ M k) : ArrH s' B E E' bA vs xss p v ys :=
 ⟨h.len, h.low, h.mem.tch t (hn bA (.inl rfl)), fun i u xs hi hv hx => (h.bld i u xs hi hv hx).tch t (fun b hb => hn b (.inr ⟨i, u, by rw [List.getElem?_set_ne (fun e => hi e.symm)]; exact hv, hb⟩)),
 h.new.tch t (fun b hb => hn b (.inr ⟨p, v, by rw [List.getElem?_set_self hp], hb⟩)), h.ne, h.dis⟩
theorem ArrH.lt {b : Nat} (h : ArrH s B E E' bA vs xss p v ys) (hb : ownB bA (vs.set p v) b) : B ≤ b ∧ b < s.w.heap.size := by
 rcases hb with rfl | ⟨i, u, hv, hb⟩
 ·exact ⟨h.low, h.mem.lt⟩
 ·rcases set_get hv with ⟨rfl, rfl⟩ | ⟨hi, hv⟩
  ·exact h.new.lt hb
  ·obtain ⟨hl, _⟩ := List.getElem?_eq_some_iff.1 hv
   exact (h.bld i u _ hi hv (List.getElem?_eq_getElem (by rw [← h.len]; exact hl))).lt hb

theorem ArrB.grow (h : ArrB s B E E' bA vs xss) (hv : vs[p]? = some v0) (hx : xss[p]? = some xs) (g : Grows s B E' v0 v ys s') : ArrH s' B E E' bA vs xss p v ys := by
 have hne := h.ne p v0 hv
 have hnew : ∀ k, own v k → k < s.w.heap.size → own v0 k := fun k hk hl => (g.own k hk).resolve_right (by omega)
 refine ⟨h.len, h.low, h.mem.tch g.tch hne, fun i u xs' hi hu hx' => (h.bld i u xs' hu hx').tch g.tch (h.dis i p u v0 hu hv hi), g.bld, fun i u hu hb => ?_, fun i j u u' hu hu' hij k hk hk' => ?_⟩
 ·rcases set_get hu with ⟨rfl, rfl⟩ | ⟨hi, hu⟩
  ·exact hne (hnew bA hb h.mem.lt)
  ·exact h.ne i u hu hb
 ·rcases set_get hu with ⟨e1, e2⟩ | ⟨hi, hu2⟩
  ·rcases set_get hu' with ⟨e3, e4⟩ | ⟨hj, hu3⟩
   ·exact hij (e1.trans e3.symm)
   ·have hlt := (h.lt (b := k) (.inr ⟨j, u', hu3, hk'⟩)).2
    exact h.dis _ _ _ _ hu3 hv hj k hk' (hnew k (e2 ▸ hk) hlt)
  ·rcases set_get hu' with ⟨e3, e4⟩ | ⟨hj, hu3⟩
   ·have hlt := (h.lt (b := k) (.inr ⟨i, u, hu2, hk⟩)).2
    exact h.dis _ _ _ _ hu2 hv hi k hk (hnew k (e4 ▸ hk') hlt)
   ·exact h.dis i j u u' hu2 hu3 hij k hk hk'

theorem ArrB.toV (h : ArrB s B E E' bA vs xss) : ∃ s', s'.w = s.w ∧ Tch (fun k => k = bA) s s' ∧ V s' (.slice (some ⟨bA, 0, none⟩) xss.length xss.length) xss := by
 obtain ⟨s', e, t, hg, ho⟩ := h.mem.claim vs.length
 refine ⟨s', e, t, Vslice rfl (Nat.le_refl _) (fun _ => ⟨bA, 0, rfl, fun i hi => ?_⟩)⟩
 have hiv : i < vs.length := by rw [h.len]; exact hi
 refine ⟨[vs[i]], ((h.bld i vs[i] xss[i] (List.getElem?_eq_getElem hiv) (List.getElem?_eq_getElem hi)).toV.mono t.le).one rfl, fun j hj => ?_⟩
 have hj0 : j = 0 := by simpa using hj
 subst hj0
 have h1 : (Rep.size (List α)) = 1 := rfl
 rw [h1, e, hg, h.mem.cell]
 refine ⟨?_, by omega⟩
 simp [List.getElem?_eq_getElem hiv]
end

def PX.arrb {α : Type} [Rep α] (B : Nat) (E E' : TypeId) (bA : Nat) (vs : List Value) (xss : List (List α)) : PX :=
 ⟨fun _ s => ArrB s B E E' bA vs xss, fun _ => ownB bA vs, fun h t hn => h.tch t hn, fun h hb => (h.lt hb).2⟩
def PX.arrh {α : Type} [Rep α] (B : Nat) (E E' : TypeId) (bA : Nat) (vs : List Value) (xss : List (List α)) (p : Nat) (hp : p < vs.length) (ys : List α) : PX :=
 ⟨fun v s => ArrH s B E E' bA vs xss p v ys, fun v => ownB bA (vs.set p v), fun h t hn => h.tch t hp hn, fun h hb => (h.lt hb).2⟩
def PX.arrc {α : Type} [Rep α] (B : Nat) (E E' : TypeId) (bA : Nat) (vs : List Value) (xss : List (List α)) (p : Nat) : PX :=
 ⟨fun v s => ArrB s B E E' bA (vs.set p v) xss, fun v => ownB bA (vs.set p v), fun h t hn => h.tch t hn, fun h hb => (h.lt hb).2⟩

section
variable {P : Program} {n : Nat} {Q : Post} {f : Fr} {w : World} {ops : Array Oper} {rest : List Oper} {s : St}
variable {d : Nat} {ty : TypeId} {pos : String} {aft : Array Edge} {α : Type} [Rep α] {B : Nat} {E E' : TypeId} {bA p : Nat} {vs : List Value} {xss : List (List α)} {v v0 : Value} {ys : List α}

theorem L_makeB {T : TypeId} {x : Operand} {k : Int} {bytes : Nat} (hT : P.underlying T = some (.slice E)) (hZ : TyZ P E (List α) bytes (.slice none 0 0)) (hx : ev f x = .int .i64 k) (h0 : 0 ≤ k)
  (hb : (bytes : Int) * k ≤ 281474976710656) (h63 : k ≤ 9223372036854775807) (hd : d < n) (hB : B ≤ s.w.heap.size)
  (h : ∀ s' b, Ext s s' → s.w.heap.size ≤ b → ArrB s' B E E' b (List.replicate k.toNat (.slice none 0 0)) (List.replicate k.toNat ([] : List α)) → L P n ops Q rest (upd f d (.slice (some ⟨b, 0, none⟩) k.toNat k.toNat)) s'.w) :
  L P n ops Q (⟨some d, .makeSlice T x x, ty, pos, aft, none⟩ :: rest) f s.w := by
 obtain ⟨i, hi, hz, hsz, hby⟩ := info_parts hZ.info
 have hr := run_make (P := P) s.w T E i _ hT hi hz .i64 .i64 k k h0 (Int.le_refl _) (by rw [hby]; exact hb) h63
 refine L_val (v := .slice (some ⟨s.w.heap.size, 0, none⟩) k.toNat k.toNat) rfl (fun k e => by cases e; exact hd) (w' := s.w.alloc (.cells (madeCells (Value.slice none 0 0).cells (k.toNat * i.size)) E)) (by simp [execOp, hx, hr]) ?_
 refine h (s.new (.cells (madeCells (Value.slice none 0 0).cells (k.toNat * i.size)) E) 0) s.w.heap.size (Ext.new _ _ _) (Nat.le_refl _) ⟨by simp, hB, ⟨?_, if_pos rfl⟩, ?_, ?_, ?_⟩
 ·have h1 : madeCells (Value.slice none 0 0).cells (k.toNat * i.size) = (List.replicate k.toNat (Value.slice none 0 0)).toArray := by
   have h2 : i.size = 1 := hsz
   rw [h2, Nat.mul_one]
   apply Array.ext'
   apply List.ext_getElem
   ·simp [size_madeCells]
   ·intro j g1 g2
    simp [madeCells, Value.cells, Nat.mod_one]
  rw [← h1]
  simpa [St.new] using heap_alloc_new s.w (.cells (madeCells (Value.slice none 0 0).cells (k.toNat * i.size)) E)
 ·intro i v xs hv hx
  obtain ⟨_, h1⟩ := List.getElem?_eq_some_iff.1 hv
  obtain ⟨_, h2⟩ := List.getElem?_eq_some_iff.1 hx
  simp at h1 h2; subst h1 h2; exact Bld.nil
 ·intro i v hv
  obtain ⟨_, h1⟩ := List.getElem?_eq_some_iff.1 hv
  simp at h1; subst h1; exact own_nil
 ·intro i j v u hv hu _ k hk
  obtain ⟨_, h1⟩ := List.getElem?_eq_some_iff.1 hv
  simp at h1; subst h1; exact (own_nil hk).elim

theorem L_loadB {T : TypeId} {x : Operand} (hT : Ty P T (List α)) (hx : ev f x = .pointer (some ⟨bA, p, none⟩)) (hA : ArrB s B E E' bA vs xss) (hv : vs[p]? = some v0) (hd : d < n)
  (h : L P n ops Q rest (upd f d v0) s.w) : L P n ops Q (⟨some d, .load T x, ty, pos, aft, none⟩ :: rest) f s.w := by
 obtain ⟨s', e, t, hg, ho⟩ := hA.mem.claim vs.length
 obtain ⟨hp, hpe⟩ := List.getElem?_eq_some_iff.1 hv
 have hat : AtRO s' bA p [v0] := by
  intro i hi
  have h0 : i = 0 := by simpa using hi
  subst h0
  refine ⟨by rw [e, hA.mem.cell]; simpa using hv, by rw [hg]; simpa using hp⟩
 have hrel := (hA.bld p v0 _ hv (List.getElem?_eq_getElem (by rw [← hA.len]; exact hp))).toV.one rfl
 have := run_load_ro (P := P) hT (Rep.mono t.le hrel) hat
 rw [e] at this
 refine L_val (v := pack (Rep.agg (List α)) [v0]) rfl (fun k e => by cases e; exact hd) ?_ h
 simp [execOp, Instr.loadAt, Instr.sureAddr, hx, this]

theorem L_storeB {T : TypeId} {x a : Operand} (hT : Ty P T (List α)) (ha : ev f a = .pointer (some ⟨bA, p, none⟩)) (hx : ev f x = v) (hA : ArrH s B E E' bA vs xss p v ys) (hp : p < vs.length)
  (h : ∀ s', Tch (fun k => k = bA) s s' → ArrB s' B E E' bA (vs.set p v) (xss.set p ys) → L P n ops Q rest f s'.w) :
  L P n ops Q (⟨none, .store T a x, ty, pos, aft, none⟩ :: rest) f s.w := by
 obtain ⟨ks, hrel, hcs, hlen, hpack⟩ := rel_cells hA.new.toV
 have hks : ks = [v] := by
  have h1 : ks.length = 1 := hlen
  match ks, h1 with
  | [c], _ => simp [pack, show Rep.agg (List α) = false from rfl] at hpack; rw [hpack]
 subst hks
 obtain ⟨s', hr, ht, hm⟩ := hA.mem.store (P := P) (ks := [v]) p (by simp; omega) (Rep.one hrel)
 have hsp : splice vs p [v] = vs.set p v := by
  apply List.ext_getElem?
  intro q
  rw [splice_get? (by simp; omega), List.getElem?_set]
  by_cases e : p = q
  ·subst e; simp [hp]
  ·rw [if_neg e, if_neg (by simp; omega)]
 rw [hsp] at hm
 refine L_skip rfl rfl (w' := s'.w) ?_ (h s' ht ⟨by simp [hA.len], hA.low, hm, fun i u xs hu hx' => ?_, hA.ne, hA.dis⟩)
 ·have hsz : v.cells.size = Rep.size (List α) := by rw [← hlen, ← hcs]; simp
  simp only [execOp, Instr.storeAt, Instr.sureAddr, ha, hx, storeVar, Sem.run_bind, Sem.run_pure, Result.andThen_ok, run_sizeOf hT.inf, hsz, hcs]
  simp [hr]
 ·have hnb : ∀ b, own u b → ¬ b = bA := fun b hb e => hA.ne i u hu (e ▸ hb)
  rcases set_get hu with ⟨rfl, rfl⟩ | ⟨hi, hu'⟩
  ·rw [List.getElem?_set_self (by rw [← hA.len]; exact hp)] at hx'
   cases hx'
   exact hA.new.tch ht hnb
  ·rw [List.getElem?_set_ne (fun e => hi e.symm)] at hx'
   exact (hA.bld i u xs hi hu' hx').tch ht hnb
end

theorem L_neqNil {P : Program} {n : Nat} {Q : Post} {f : Fr} {w : World} {ops : Array Oper} {rest : List Oper} {d : Nat} {ty : TypeId} {pos : String} {aft : Array Edge} {T T' E : TypeId} {x : Operand} {a : Option Addr} {l c l' c' : Nat}
  (hT : P.underlying T = some (.slice E)) (hx : ev f x = .slice a l c) (hd : d < n) (h : L P n ops Q rest (upd f d (.bool (!a.isNone))) w) :
  L P n ops Q (⟨some d, .binOp .neq T x (.const (.slice none l' c')) T', ty, pos, aft, none⟩ :: rest) f w :=
 L_val (v := .bool (!a.isNone)) rfl (fun k e => by cases e; exact hd) (by
  have h1 := run_neq_slice_nil_any (P := P) w T E a l c l' c' hT
  simp [execOp, hx, eqGuard, show ev f (.const (.slice none l' c')) = .slice none l' c' from rfl, h1]) h
def two {κ σ β ρ : Type} (body : κ → σ → Option (LR σ β ρ)) (a b : κ) (s : σ) : Option (LR σ β ρ) := (body a s).bind fun x => match x with
 | .next s' => body b s'
 | x => some x
def Commutes {κ σ β ρ : Type} (body : κ → σ → Option (LR σ β ρ)) : Prop := ∀ a b s, two body a b s = two body b a s
theorem foldE_two {κ σ β ρ : Type} {body : κ → σ → Option (LR σ β ρ)} {fin : σ → β} (a b : κ) (l : List κ) (s : σ) :
  foldE body fin (a :: b :: l) s = (two body a b s).bind fun x => match x with
   | .next s' => foldE body fin l s'
   | .brk b => some (.inl b)
   | .ret r => some (.inr r) := by
 simp only [foldE, two]
 cases h : body a s with
 | none => rfl
 | some x => cases x <;> rfl
theorem foldE_perm {κ σ β ρ : Type} {body : κ → σ → Option (LR σ β ρ)} {fin : σ → β} (hc : Commutes body) {l m : List κ} (h : l.Perm m) : ∀ s, foldE body fin l s = foldE body fin m s := by
 induction h with
 | nil => intro s; rfl
 | cons x _ ih => intro s; simp only [foldE, ih]
 | swap a b l => intro s; rw [foldE_two, foldE_two, hc]
 | trans _ _ h1 h2 => intro s; rw [h1, h2]
def NoGoto (Q : Post) : Post
 | .goto _, _, _ => False
 | e, f, w => Q e f w
theorem W_scope {P : Program} {n : Nat} {Q : Post} {f : Fr} {w : World} {c : Code} (h : W P n c (NoGoto Q) f w) : W P n (.scope c) Q f w := fun a ha =>
 wp_scope_straight (wp_mono (h a ha) fun e a w q => by
  obtain ⟨f, hf, q⟩ := q
  cases e with
  | goto l => exact q
  | _ => exact ⟨f, hf, q⟩)
end Go.Arm
