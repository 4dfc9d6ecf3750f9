/- Rules for steps of the code over memory with claims. -/
import Derived.Test.YtdaedcoolcicoaaCoreA
import Derived.Lib.AppendZeros
import Derived.Scope
import Derived.WalkSpells
import Derived.Laws.BytesString
namespace Go.Arm
open Go Go.RowKit

/-- A predicate on a value that holds on as long as claims hold. -/
structure PL where
  p : Value → St → Prop
  m : ∀ v s s', p v s → Le s s' → p v s'
def PL.eq (x : Value) : PL := ⟨fun v _ => v = x, fun _ _ _ h _ => h⟩
def PL.any : PL := ⟨fun _ _ => True, fun _ _ _ h _ => h⟩
def PL.data {α : Type} [Rep α] (x : α) : PL := ⟨fun v s => V s v x, fun _ _ _ h e => h.mono e⟩
def PL.ptr {α : Type} [Rep α] (x : α) : PL := ⟨fun v s => Ptr s v x, fun _ _ _ h e => h.mono e⟩
def PL.two (a b : PL) : PL := ⟨fun v s => ∃ x y, v = .tuple #[x, y] ∧ a.p x s ∧ b.p y s, fun _ s s' ⟨x, y, e, h, k⟩ l => ⟨x, y, e, a.m x s s' h l, b.m y s s' k l⟩⟩
def PL.three (a b c : PL) : PL := ⟨fun v s => ∃ x y z, v = .tuple #[x, y, z] ∧ a.p x s ∧ b.p y s ∧ c.p z s, fun _ s s' ⟨x, y, z, e, h, k, j⟩ l => ⟨x, y, z, e, a.m x s s' h l, b.m y s s' k l, c.m z s s' j l⟩⟩

/-- Values that stand for themselves. -/
structure RawV where
  v : Value
instance : Rep RawV where
  size := 1
  agg := false
  rel _ cs x := cs = [x.v] ∧ x.v.oneCell' = true
  len := by rintro s cs x ⟨rfl, _⟩; rfl
  mono := fun _ h => h
  one := by rintro s cs x ⟨rfl, h⟩ v hv; simp at hv; subst hv; exact h
  single _ := rfl
theorem V.raw {s : St} {v : Value} {x : RawV} (h : V s v x) : v = x.v := by obtain ⟨cs, ⟨rfl, _⟩, rfl⟩ := h; rfl
theorem Vraw {s : St} {v : Value} (h : v.oneCell' = true) : V s v (⟨v⟩ : RawV) := ⟨[v], ⟨rfl, h⟩, rfl⟩

/-- A map that nobody writes any more, up to the order of its entries. -/
def MapQ {β : Type} [Rep β] (s : St) (v : Value) (L : List (Int × β)) : Prop := ∃ m, MapV s v m ∧ m.Perm L ∧ (L.map (·.1)).Nodup
def PL.mapq {β : Type} [Rep β] (L : List (Int × β)) : PL := ⟨fun v s => MapQ s v L, fun _ _ _ ⟨m, h, p⟩ e => ⟨m, h.mono e, p⟩⟩

def setL (l : Nat → Bool) (i : Nat) : Nat → Bool := fun j => decide (j = i) || l j
/-- What of the inserts is done. -/
def picked {β : Type} (ins : List (Nat × Int × β)) (l : Nat → Bool) : List (Int × β) := (ins.filter fun e => l e.1).map (·.2)
/-- The map that is being filled. -/
def IM {β : Type} [Rep β] (B sl i0 i9 : Nat) (ins : List (Nat × Int × β)) (l : Nat → Bool) (f : Fr) (s : St) : Prop :=
  l i0 = true → l i9 = false → ∃ b m, f sl = .map (some b) ∧ B ≤ b ∧ MapX s b m ∧ m.Perm (picked ins l)

section
variable {β : Type} [Rep β] {B sl i0 i9 : Nat} {ins : List (Nat × Int × β)} {l : Nat → Bool} {f : Fr} {s s' : St}
theorem mset_new {β : Type} {m : List (Int × β)} {k : Int} {x : β} (h : ∀ e, e ∈ m → e.1 ≠ k) : mset m k x = m ++ [(k, x)] := by
  unfold mset
  rw [if_neg]
  rw [List.any_eq_true]
  rintro ⟨e, he, h2⟩
  exact h e he (by simpa using h2)
end

section
variable {P : Program} {n : Nat} {Q : Post} {f : Fr} {w : World} {ops : Array Oper} {rest : List Oper} {s : St}
variable {d : Nat} {ty : TypeId} {pos : String} {aft : Array Edge} {β : Type} [Rep β]

end

section
variable {P : Program} {n : Nat} {Q : Post} {f : Fr}
/-- As drawOk, but operations without a slot are allowed. -/
def drawOkI (n : Nat) (ops : Array Oper) : Bool :=
  (List.range ops.size).all fun i => match ops[i]? with
    | none => true
    | some o => o.after.toList.all (fun e => !Region.binds .any e || decide (e.on < i)) &&
      (match o.dst with
       | none => true
       | some d => decide (d < n) && (List.range ops.size).all fun j => decide (j = i) || (match ops[j]? with | some o' => o'.dst != some d | none => true))

structure DrawSpecI (n : Nat) (ops : Array Oper) : Prop where
  edge : ∀ (i : Nat) (o : Oper), ops[i]? = some o → ∀ e, e ∈ o.after.toList → Region.binds .any e = true → e.on < i
  uniq : ∀ (i j : Nat) (o o' : Oper) (d : Nat), ops[i]? = some o → ops[j]? = some o' → o.dst = some d → o'.dst = some d → i = j

def StepI (P : Program) (n : Nat) (ops : Array Oper) (I : (Nat → Bool) → Fr → St → Prop) (s0 : St) (i : Nat) (o : Oper) (l : Nat → Bool) (f : Fr) (s : St) (Φ : Value → St → Prop) : Prop :=
  ∀ (Q : Post), (∀ v s', Ext s0 s' → Le s s' → Φ v s' → I (setL l i) (updO f o.dst v) s' → Q .normal (updO f o.dst v) s'.w) → L P n ops Q [o] f s.w

def StepsI (P : Program) (n : Nat) (ops : Array Oper) (I : (Nat → Bool) → Fr → St → Prop) (pls : List PL) (f : Fr) (s : St) : List Oper → Nat → Prop
  | [], _ => True
  | o :: r, i => (∀ l f' s', l i = false → (∀ j, aheadOf o j = true → l j = true) → (∀ j o', ops[j]? = some o' → aheadOf o' i = true → l j = false) → Ext s s' →
      (∀ j d, aheadOf o j = true → dstOf ops j = some d → (pls.getD j PL.any).p (f' d) s') → (∀ t, slotFree ops i t = true → f' t = f t) → I l f' s' →
      StepI P n ops I s i o l f' s' (pls.getD i PL.any).p) ∧ StepsI P n ops I pls f s r (i + 1)
theorem StepsI.get {ops : Array Oper} {I : (Nat → Bool) → Fr → St → Prop} {pls : List PL} {s : St} : ∀ {l : List Oper} {k : Nat}, StepsI P n ops I pls f s l k → ∀ (i : Nat) (o : Oper), l[i]? = some o →
      ∀ l f' s', l (k + i) = false → (∀ j, aheadOf o j = true → l j = true) → (∀ j o', ops[j]? = some o' → aheadOf o' (k + i) = true → l j = false) → Ext s s' →
      (∀ j d, aheadOf o j = true → dstOf ops j = some d → (pls.getD j PL.any).p (f' d) s') → (∀ t, slotFree ops (k + i) t = true → f' t = f t) → I l f' s' →
      StepI P n ops I s (k + i) o l f' s' (pls.getD (k + i) PL.any).p
  | [], _, _, i, o, h => by simp at h
  | a :: l, k, ⟨h1, h2⟩, 0, o, h => by simp at h; subst h; exact h1
  | a :: l, k, ⟨h1, h2⟩, i + 1, o, h => by
    have := StepsI.get h2 i o (by simpa using h)
    rw [show k + 1 + i = k + (i + 1) by omega] at this
    exact this

end
end Go.Arm
namespace Go.Arm
open Go Go.RowKit
def waitsFor (ops : Array Oper) (i j : Nat) : Bool := match ops[j]? with | some o => aheadOf o i | none => false
end Go.Arm
namespace Go.Arm
open Go Go.RowKit
theorem lt_at {k b n : Nat} (h : k = b) (l : b < n) : k < n := h ▸ l

section
variable {P : Program} {n : Nat} {Q : Post} {f : Fr} {w : World} {ops : Array Oper} {rest : List Oper} {s : St}
variable {d : Nat} {ty : TypeId} {pos : String} {aft : Array Edge} {α : Type} [Rep α]

end
end Go.Arm
namespace Go.Arm
open Go Go.RowKit

theorem splice_get? {C ks : List Value} {o p : Nat} (h : o + ks.length ≤ C.length) : (splice C o ks)[p]? = if o ≤ p ∧ p < o + ks.length then ks[p - o]? else C[p]? := by
  unfold splice
  by_cases h1 : p < o
  · rw [List.append_assoc, List.getElem?_append_left (by simp; omega), List.getElem?_take, if_pos h1, if_neg (by omega)]
  · by_cases h2 : p < o + ks.length
    · rw [if_pos (by omega), List.append_assoc, List.getElem?_append_right (by simp; omega), List.length_take, Nat.min_eq_left (by omega), List.getElem?_append_left (by omega)]
    · rw [if_neg (by omega), List.getElem?_append_right (by simp; omega), List.getElem?_drop]
      congr 1
      simp only [List.length_append, List.length_take]
      rw [Nat.min_eq_left (by omega)]; omega

theorem drop_take_field {C ks : List Value} {sz j i off : Nat} (hf : off + ks.length ≤ sz) (hj : j * sz + sz ≤ C.length) (hi : i * sz + sz ≤ C.length) :
    ((splice C (j * sz + off) ks).drop (i * sz)).take sz = if i = j then splice ((C.drop (j * sz)).take sz) off ks else (C.drop (i * sz)).take sz := by
  apply List.ext_getElem?
  intro q
  rw [List.getElem?_take, List.getElem?_drop, splice_get? (by omega)]
  by_cases hij : i = j
  · subst hij
    rw [if_pos rfl, splice_get? (by simp; omega), List.getElem?_take, List.getElem?_drop]
    by_cases hq : q < sz
    · simp only [if_pos hq]
      by_cases h1 : off ≤ q ∧ q < off + ks.length
      · rw [if_pos (by omega), if_pos h1]; congr 1; omega
      · rw [if_neg (by omega), if_neg h1]
    · simp only [if_neg hq]
      rw [if_neg (by omega)]
  · rw [if_neg hij, List.getElem?_take, List.getElem?_drop]
    by_cases hq : q < sz
    · simp only [if_pos hq]
      rw [if_neg]
      rintro ⟨h1, h2⟩
      rcases Nat.lt_or_gt_of_ne hij with h | h
      · have : (i + 1) * sz ≤ j * sz := Nat.mul_le_mul_right _ h
        rw [Nat.succ_mul] at this; omega
      · have : (j + 1) * sz ≤ i * sz := Nat.mul_le_mul_right _ h
        rw [Nat.succ_mul] at this; omega
    · simp only [if_neg hq]

/-- Data that lie in their cells alone. -/
def Flat (α : Type) [Rep α] : Prop := ∀ s s' cs (x : α), Rep.rel s cs x → Rep.rel s' cs x

/-- A slice of the call's own whose elements may be set. -/
def ArrS {α : Type} [Rep α] (s : St) (B : Nat) (E : TypeId) (v : Value) (xs : List α) : Prop :=
  (v = .slice none 0 0 ∧ xs = []) ∨
  ∃ b cap C, v = .slice (some ⟨b, 0, none⟩) xs.length cap ∧ B ≤ b ∧ xs.length ≤ cap ∧ Mut s b E C ∧ xs.length * Rep.size α ≤ C.length ∧
    ∀ i (h : i < xs.length), Rep.rel s ((C.drop (i * Rep.size α)).take (Rep.size α)) xs[i]

section
variable {α β : Type} [Rep α] [Rep β] {s s' sa s1 s2 : St} {B : Nat} {E : TypeId} {v : Value} {xs : List α} {M : Nat → Prop}
theorem ArrS.lt {b : Nat} (h : ArrS s B E v xs) (e : own v b) : B ≤ b ∧ b < s.w.heap.size := by
  rcases h with ⟨rfl, rfl⟩ | ⟨b', cap, C, rfl, hb, _, hm, _⟩
  · cases e
  · cases e; exact ⟨hb, hm.lt⟩
theorem ArrS.tch (h : ArrS s B E v xs) (t : Tch M s s') (hn : ∀ b, own v b → ¬ M b) : ArrS s' B E v xs := by
  rcases h with h | ⟨b, cap, C, rfl, hb, hc, hm, hl, hr⟩
  · exact .inl h
  · exact .inr ⟨b, cap, C, rfl, hb, hc, hm.tch t (hn b rfl), hl, fun i hi => Rep.mono t.le (hr i hi)⟩
theorem ArrS.ext (h : ArrS s B E v xs) (t : Ext s s') : ArrS s' B E v xs := h.tch t (fun _ _ x => x)
theorem ArrS.base {B' : Nat} (h : ArrS s B E v xs) (hB : B' ≤ B) : ArrS s B' E v xs := by
  rcases h with h | ⟨b, cap, C, rfl, hb, h⟩
  · exact .inl h
  · exact .inr ⟨b, cap, C, rfl, Nat.le_trans hB hb, h⟩
theorem ArrS.freeze (h : ArrS s B E v xs) : ∃ s', s'.w = s.w ∧ Tch (own v) s s' ∧ V s' v xs := by
  rcases h with ⟨rfl, rfl⟩ | ⟨b, cap, C, rfl, hb, hc, hm, hl, hr⟩
  · exact ⟨s, rfl, Tch.refl _ _, Vnil⟩
  · obtain ⟨s', e, t, hg, ho⟩ := hm.claim C.length
    refine ⟨s', e, t.mono (fun x hx => by subst hx; rfl), Vslice rfl hc (fun _ => ⟨b, 0, rfl, RowAt.of_cells (cells := C.take (xs.length * Rep.size α)) ?_ (by simp; omega) (fun i hi => ?_)⟩)⟩
    · intro j hj
      simp only [List.length_take] at hj
      rw [e, hg, Nat.zero_add, hm.cell]
      refine ⟨?_, by omega⟩
      rw [List.getElem_take, List.getElem?_eq_getElem]
    · have hle : (i + 1) * Rep.size α ≤ xs.length * Rep.size α := Nat.mul_le_mul_right _ hi
      rw [Nat.succ_mul] at hle
      have hd : ((C.take (xs.length * Rep.size α)).drop (i * Rep.size α)).take (Rep.size α) = (C.drop (i * Rep.size α)).take (Rep.size α) := by
        apply List.ext_getElem?
        intro q
        simp only [List.getElem?_take, List.getElem?_drop]
        by_cases hq : q < Rep.size α
        · rw [if_pos hq, if_pos hq, if_pos (by omega)]
        · rw [if_neg hq, if_neg hq]
      rw [hd]
      exact Rep.mono t.le (hr i hi)

/-- What has been built since a state is claimed no more. -/
theorem Bld.thaw (hF : Flat α) (hE : Ext sa s) (h : Bld s sa.w.heap.size E v xs) : ∃ s', s'.w = s.w ∧ Ext sa s' ∧ ArrS s' sa.w.heap.size E v xs := by
  rcases h with ⟨rfl, rfl⟩ | ⟨b, cap, cur, rfl, hb, hh, hxc, hcm, hcs, hg, hrow⟩
  · exact ⟨s, rfl, hE, .inl ⟨rfl, rfl⟩⟩
  · let s' : St := ⟨s.w, fun k => if k = b then 0 else s.g k, fun k hk => by
      show (if k = b then 0 else s.g k) = 0
      split
      · rfl
      · exact s.ok k hk⟩
    have hEx : Ext sa s' := by
      refine ⟨hE.os, hE.tape, hE.output, hE.size, fun k hk hm => hE.block k hk hm, fun k hk hm => ?_, le_of_blocks (fun k hk => hE.block k hk (fun x => x)) (fun k hk => ?_)⟩
      · show (if k = b then 0 else s.g k) = sa.g k
        rw [if_neg (by omega)]; exact hE.g k hk hm
      · show sa.g k ≤ if k = b then 0 else s.g k
        rw [if_neg (by omega)]; exact Nat.le_of_eq (hE.g k hk (fun x => x)).symm
    refine ⟨s', rfl, hEx, .inr ⟨b, cap, cur.toList, rfl, hb, hxc, ⟨by simpa using hh, if_pos rfl⟩, ?_, fun i hi => ?_⟩⟩
    · simp only [Array.length_toList, hcs]; exact Nat.mul_le_mul_right _ hxc
    · obtain ⟨cs, h1, h2⟩ := hrow i hi
      have hlen := Rep.len h1
      have hle : (i + 1) * Rep.size α ≤ cap * Rep.size α := Nat.mul_le_mul_right _ (by omega)
      rw [Nat.succ_mul] at hle
      have : (cur.toList.drop (i * Rep.size α)).take (Rep.size α) = cs := by
        apply List.ext_getElem
        · simp; omega
        · intro j g1 g2
          have := (h2 j g2).1
          simp only [World.cell?, hh, Nat.zero_add] at this
          simp only [List.getElem_take, List.getElem_drop, Array.getElem_toList]
          have g3 : i * Rep.size α + j < cur.size := by omega
          simp [Array.getElem?_eq_getElem g3] at this
          exact this
      rw [this]
      exact hF _ _ _ _ h1
end

/-- The address of an element's field. -/
def elemP (v : Value) (j : Int) (sz off : Nat) : Value := match v with | .slice (some a) _ _ => .pointer (some ⟨a.block, j.toNat * sz + off, none⟩) | _ => undef

section
variable {P : Program} {n : Nat} {Q : Post} {f : Fr} {w : World} {ops : Array Oper} {rest : List Oper} {s : St}
variable {d : Nat} {ty : TypeId} {pos : String} {aft : Array Edge} {α β : Type} [Rep α] [Rep β] {B : Nat} {E : TypeId} {v : Value} {xs : List α} {j : Int} {y : α}

theorem ArrS.at (h : ArrS s B E v xs) (hy : idx xs j = some y) : ∃ b cap C, v = .slice (some ⟨b, 0, none⟩) xs.length cap ∧ Mut s b E C ∧ j.toNat * Rep.size α + Rep.size α ≤ C.length ∧
    Rep.rel s ((C.drop (j.toNat * Rep.size α)).take (Rep.size α)) y := by
  obtain ⟨h0, h1, h2⟩ := idx_some hy
  rcases h with ⟨rfl, rfl⟩ | ⟨b, cap, C, rfl, hb, hc, hm, hl, hr⟩
  · simp at h2
  · obtain ⟨hlt, he⟩ := List.getElem?_eq_some_iff.1 h2
    have hle : (j.toNat + 1) * Rep.size α ≤ xs.length * Rep.size α := Nat.mul_le_mul_right _ hlt
    rw [Nat.succ_mul] at hle
    exact ⟨b, cap, C, rfl, hm, by omega, by have := hr _ hlt; rw [he] at this; exact this⟩

theorem L_indexS {T : TypeId} {x i : Operand} {k : IntKind} (hT : P.underlying T = some (.slice E)) (hE : (P.info? E).map (·.size) = some (Rep.size α)) (hx : ev f x = v) (hi : ev f i = .int k j) (hA : ArrS s B E v xs) (hy : idx xs j = some y) (hd : d < n)
    (h : L P n ops Q rest (upd f d (elemP v j (Rep.size α) 0)) w) : L P n ops Q (⟨some d, .indexAddr T x i, ty, pos, aft, none⟩ :: rest) f w := by
  obtain ⟨b, cap, C, rfl, _⟩ := hA.at hy
  exact L_indexA hT hE hx hi (idx_some hy).1 (idx_some hy).2.1 hd h

theorem L_storeS_field {sz0 : Nat} {T : TypeId} {x a : Operand} {u : Value} {z : β} {set : α → β → α} {off : Nat} (hT : Ty P T β) (hF : FieldSet set off) (ha : ev f a = elemP v j sz0 off) (hx : ev f x = u) (hV : V s u z) (hA : ArrS s B E v xs) (hy : idx xs j = some y) (hs : sz0 = Rep.size α)
    (h : ∀ s', Tch (own v) s s' → ArrS s' B E v (xs.set j.toNat (set y z)) → L P n ops Q rest f s'.w) :
    L P n ops Q (⟨none, .store T a x, ty, pos, aft, none⟩ :: rest) f s.w := by
  subst hs
  obtain ⟨h0, h1, h2⟩ := idx_some hy
  obtain ⟨hlt, he⟩ := List.getElem?_eq_some_iff.1 h2
  rcases hA with ⟨rfl, rfl⟩ | ⟨b, cap, C, rfl, hb, hc, hm, hl, hr⟩
  · simp at h2
  have hle : (j.toNat + 1) * Rep.size α ≤ xs.length * Rep.size α := Nat.mul_le_mul_right _ hlt
  rw [Nat.succ_mul] at hle
  have hrel := hr _ hlt
  rw [he] at hrel
  obtain ⟨ks, hk, hcs, hlen, hpack⟩ := rel_cells hV
  obtain ⟨hset, hfit⟩ := hF s _ ks y z hrel hk
  have hlr := Rep.len hrel
  rw [hlr] at hfit
  obtain ⟨s', hr', ht, hm'⟩ := hm.store (P := P) (ks := ks) (j.toNat * Rep.size α + off) (by omega) (Rep.one hk)
  have hsl : (splice C (j.toNat * Rep.size α + off) ks).length = C.length := by simp [splice]; omega
  refine L_skip rfl rfl (w' := s'.w) ?_ (h s' (ht.mono (fun x hx => by subst hx; rfl)) (.inr ⟨b, cap, _, by simp, hb, by simpa using hc, hm', by rw [hsl]; simpa using hl, fun i hi => ?_⟩))
  · have hsz : u.cells.size = Rep.size β := by rw [← hlen, ← hcs]; simp
    simp only [elemP] at ha
    simp only [execOp, Instr.storeAt, Instr.sureAddr, ha, hx, storeVar, Sem.run_bind, Sem.run_pure, Result.andThen_ok, run_sizeOf hT.inf, hsz, hcs]
    simp [hr']
  · simp only [List.length_set] at hi
    have hi1 : (i + 1) * Rep.size α ≤ xs.length * Rep.size α := Nat.mul_le_mul_right _ hi
    rw [Nat.succ_mul] at hi1
    rw [drop_take_field hfit (by omega) (by omega), List.getElem_set]
    by_cases hij : i = j.toNat
    · rw [if_pos hij, if_pos hij.symm]; exact Rep.mono ht.le hset
    · rw [if_neg hij, if_neg (fun h => hij h.symm)]; exact Rep.mono ht.le (hr i hi)

end
end Go.Arm
namespace Go.Arm
open Go Go.RowKit

def ownB (bA : Nat) (vs : List Value) : Nat → Prop := fun k => k = bA ∨ ∃ (i : Nat) (v : Value), vs[i]? = some v ∧ own v k

structure ArrB {α : Type} [Rep α] (s : St) (B : Nat) (E E' : TypeId) (bA : Nat) (vs : List Value) (xss : List (List α)) : Prop where
  len : vs.length = xss.length
  low : B ≤ bA
  mem : Mut s bA E vs
  bld : ∀ (i : Nat) (v : Value) (xs : List α), vs[i]? = some v → xss[i]? = some xs → Bld s B E' v xs
  ne : ∀ (i : Nat) (v : Value), vs[i]? = some v → ¬ own v bA
  dis : ∀ (i j : Nat) (v u : Value), vs[i]? = some v → vs[j]? = some u → i ≠ j → ∀ k, own v k → ¬ own u k

/-- The same while the new value of an element is not stored yet. -/
structure ArrH {α : Type} [Rep α] (s : St) (B : Nat) (E E' : TypeId) (bA : Nat) (vs : List Value) (xss : List (List α)) (p : Nat) (v : Value) (ys : List α) : Prop where
  len : vs.length = xss.length
  low : B ≤ bA
  mem : Mut s bA E vs
  bld : ∀ (i : Nat) (v : Value) (xs : List α), i ≠ p → vs[i]? = some v → xss[i]? = some xs → Bld s B E' v xs
  new : Bld s B E' v ys
  ne : ∀ (i : Nat) (u : Value), (vs.set p v)[i]? = some u → ¬ own u bA
  dis : ∀ (i j : Nat) (u u' : Value), (vs.set p v)[i]? = some u → (vs.set p v)[j]? = some u' → i ≠ j → ∀ k, own u k → ¬ own u' k

section
variable {α : Type} [Rep α] {s s' : St} {B : Nat} {E E' : TypeId} {bA p : Nat} {vs : List Value} {xss : List (List α)} {v v0 : Value} {xs ys : List α} {M : Nat → Prop}

theorem ArrB.tch (h : ArrB s B E E' bA vs xss) (t : Tch M s s') (hn : ∀ k, ownB bA vs k → ¬ M k) : ArrB s' B E E' bA vs xss :=
  ⟨h.len, h.low, h.mem.tch t (hn bA (.inl rfl)), fun i v xs hv hx => (h.bld i v xs hv hx).tch t (fun b hb => hn b (.inr ⟨i, v, hv, hb⟩)), h.ne, h.dis⟩
theorem ArrB.ext (h : ArrB s B E E' bA vs xss) (t : Ext s s') : ArrB s' B E E' bA vs xss := h.tch t (fun _ _ x => x)
theorem ArrB.lt {b : Nat} (h : ArrB s B E E' bA vs xss) (hb : ownB bA vs b) : B ≤ b ∧ b < s.w.heap.size := by
  rcases hb with rfl | ⟨i, v, hv, hb⟩
  · exact ⟨h.low, h.mem.lt⟩
  · obtain ⟨hi, _⟩ := List.getElem?_eq_some_iff.1 hv
    obtain ⟨xs, hx⟩ : ∃ xs, xss[i]? = some xs := ⟨_, List.getElem?_eq_getElem (by rw [← h.len]; exact hi)⟩
    exact (h.bld i v xs hv hx).lt hb

theorem set_get {β : Type} {l : List β} {p i : Nat} {x y : β} (h : (l.set p x)[i]? = some y) : (i = p ∧ y = x) ∨ (i ≠ p ∧ l[i]? = some y) := by
  rw [List.getElem?_set] at h
  split at h
  · split at h
    · left; exact ⟨by omega, by cases h; rfl⟩
    · cases h
  · right; exact ⟨by omega, h⟩

theorem ArrH.tch (h : ArrH s B E E' bA vs xss p v ys) (t : Tch M s s') (hp : p < vs.length) (hn : ∀ k, ownB bA (vs.set p v) k → ¬ M k) : ArrH s' B E E' bA vs xss p v ys :=
  ⟨h.len, h.low, h.mem.tch t (hn bA (.inl rfl)), fun i u xs hi hv hx => (h.bld i u xs hi hv hx).tch t (fun b hb => hn b (.inr ⟨i, u, by rw [List.getElem?_set_ne (fun e => hi e.symm)]; exact hv, hb⟩)),
   h.new.tch t (fun b hb => hn b (.inr ⟨p, v, by rw [List.getElem?_set_self hp], hb⟩)), h.ne, h.dis⟩
theorem ArrH.lt {b : Nat} (h : ArrH s B E E' bA vs xss p v ys) (hb : ownB bA (vs.set p v) b) : B ≤ b ∧ b < s.w.heap.size := by
  rcases hb with rfl | ⟨i, u, hv, hb⟩
  · exact ⟨h.low, h.mem.lt⟩
  · rcases set_get hv with ⟨rfl, rfl⟩ | ⟨hi, hv⟩
    · exact h.new.lt hb
    · obtain ⟨hl, _⟩ := List.getElem?_eq_some_iff.1 hv
      exact (h.bld i u _ hi hv (List.getElem?_eq_getElem (by rw [← h.len]; exact hl))).lt hb

theorem ArrB.grow (h : ArrB s B E E' bA vs xss) (hv : vs[p]? = some v0) (hx : xss[p]? = some xs) (g : Grows s B E' v0 v ys s') : ArrH s' B E E' bA vs xss p v ys := by
  have hne := h.ne p v0 hv
  have hnew : ∀ k, own v k → k < s.w.heap.size → own v0 k := fun k hk hl => (g.own k hk).resolve_right (by omega)
  refine ⟨h.len, h.low, h.mem.tch g.tch hne, fun i u xs' hi hu hx' => (h.bld i u xs' hu hx').tch g.tch (h.dis i p u v0 hu hv hi), g.bld, fun i u hu hb => ?_, fun i j u u' hu hu' hij k hk hk' => ?_⟩
  · rcases set_get hu with ⟨rfl, rfl⟩ | ⟨hi, hu⟩
    · exact hne (hnew bA hb h.mem.lt)
    · exact h.ne i u hu hb
  · rcases set_get hu with ⟨e1, e2⟩ | ⟨hi, hu2⟩
    · rcases set_get hu' with ⟨e3, e4⟩ | ⟨hj, hu3⟩
      · exact hij (e1.trans e3.symm)
      · have hlt := (h.lt (b := k) (.inr ⟨j, u', hu3, hk'⟩)).2
        exact h.dis _ _ _ _ hu3 hv hj k hk' (hnew k (e2 ▸ hk) hlt)
    · rcases set_get hu' with ⟨e3, e4⟩ | ⟨hj, hu3⟩
      · have hlt := (h.lt (b := k) (.inr ⟨i, u, hu2, hk⟩)).2
        exact h.dis _ _ _ _ hu2 hv hi k hk (hnew k (e4 ▸ hk') hlt)
      · exact h.dis i j u u' hu2 hu3 hij k hk hk'

theorem ArrB.toV (h : ArrB s B E E' bA vs xss) : ∃ s', s'.w = s.w ∧ Tch (fun k => k = bA) s s' ∧ V s' (.slice (some ⟨bA, 0, none⟩) xss.length xss.length) xss := by
  obtain ⟨s', e, t, hg, ho⟩ := h.mem.claim vs.length
  refine ⟨s', e, t, Vslice rfl (Nat.le_refl _) (fun _ => ⟨bA, 0, rfl, fun i hi => ?_⟩)⟩
  have hiv : i < vs.length := by rw [h.len]; exact hi
  refine ⟨[vs[i]], ((h.bld i vs[i] xss[i] (List.getElem?_eq_getElem hiv) (List.getElem?_eq_getElem hi)).toV.mono t.le).one rfl, fun j hj => ?_⟩
  have hj0 : j = 0 := by simpa using hj
  subst hj0
  have h1 : (Rep.size (List α)) = 1 := rfl
  rw [h1, e, hg, h.mem.cell]
  refine ⟨?_, by omega⟩
  simp [List.getElem?_eq_getElem hiv]
end

def PX.arrb {α : Type} [Rep α] (B : Nat) (E E' : TypeId) (bA : Nat) (vs : List Value) (xss : List (List α)) : PX :=
  ⟨fun _ s => ArrB s B E E' bA vs xss, fun _ => ownB bA vs, fun h t hn => h.tch t hn, fun h hb => (h.lt hb).2⟩
def PX.arrh {α : Type} [Rep α] (B : Nat) (E E' : TypeId) (bA : Nat) (vs : List Value) (xss : List (List α)) (p : Nat) (hp : p < vs.length) (ys : List α) : PX :=
  ⟨fun v s => ArrH s B E E' bA vs xss p v ys, fun v => ownB bA (vs.set p v), fun h t hn => h.tch t hp hn, fun h hb => (h.lt hb).2⟩
def PX.arrc {α : Type} [Rep α] (B : Nat) (E E' : TypeId) (bA : Nat) (vs : List Value) (xss : List (List α)) (p : Nat) : PX :=
  ⟨fun v s => ArrB s B E E' bA (vs.set p v) xss, fun v => ownB bA (vs.set p v), fun h t hn => h.tch t hn, fun h hb => (h.lt hb).2⟩

section
variable {P : Program} {n : Nat} {Q : Post} {f : Fr} {w : World} {ops : Array Oper} {rest : List Oper} {s : St}
variable {d : Nat} {ty : TypeId} {pos : String} {aft : Array Edge} {α : Type} [Rep α] {B : Nat} {E E' : TypeId} {bA p : Nat} {vs : List Value} {xss : List (List α)} {v v0 : Value} {ys : List α}

end

def two {κ σ β ρ : Type} (body : κ → σ → Option (LR σ β ρ)) (a b : κ) (s : σ) : Option (LR σ β ρ) := (body a s).bind fun x => match x with
  | .next s' => body b s'
  | x => some x
def Commutes {κ σ β ρ : Type} (body : κ → σ → Option (LR σ β ρ)) : Prop := ∀ a b s, two body a b s = two body b a s
def NoGoto (Q : Post) : Post
  | .goto _, _, _ => False
  | e, f, w => Q e f w
end Go.Arm
namespace Go.Arm
open Go Go.RowKit
section
variable {P : Program} {n : Nat} {Q : Post} {f : Fr} {w : World} {ops : Array Oper} {rest : List Oper} {s : St}
variable {d : Nat} {ty : TypeId} {pos : String} {aft : Array Edge}
theorem mv {x : Operand} {v : Value} (hv : ev f x = v) (h : L P n ops Q rest (upd f d v) w) (hd : d < n := by decide) : L P n ops Q (⟨some d, .move x, ty, pos, aft, none⟩ :: rest) f w := L_move hv hd h
theorem asg {x : Operand} {v : Value} (hv : ev f x = v) (h : L P n ops Q rest (upd f d v) w) (hd : d < n := by decide) : L P n ops Q (⟨some d, .assign x, ty, pos, aft, none⟩ :: rest) f w := L_assign hv hd h
theorem gf {op : Op} {j : Nat} {b c : Bool} (e : Nat) (hv : f e = .bool c) (hc : c = !b) (h : L P n ops Q rest (upd f d undef) w) (hj : (ops[j]?).bind (·.dst) = some e := by rfl) (he : e < n := by decide) (hd : d < n := by decide) :
    L P n ops Q (⟨some d, op, ty, pos, aft, some (j, b)⟩ :: rest) f w := L_gf hj he hv hc hd h
theorem gt {op : Op} {dst : Option Nat} {j : Nat} {b c : Bool} (e : Nat) (hv : f e = .bool c) (hc : c = b) (h : L P n ops Q (⟨dst, op, ty, pos, aft, none⟩ :: rest) f w) (hj : (ops[j]?).bind (·.dst) = some e := by rfl) (he : e < n := by decide) :
    L P n ops Q (⟨dst, op, ty, pos, aft, some (j, b)⟩ :: rest) f w := L_gt hj he hv hc h
theorem pt {c x y : Operand} {b : Bool} {v : Value} (hc : ev f c = .bool b) (hb : b = true) (hv : ev f x = v) (h : L P n ops Q rest (upd f d v) w) (hd : d < n := by decide) : L P n ops Q (⟨some d, .pick c x y, ty, pos, aft, none⟩ :: rest) f w := L_pick_t hc hb hv hd h
theorem pf {c x y : Operand} {b : Bool} {v : Value} (hc : ev f c = .bool b) (hb : b = false) (hv : ev f y = v) (h : L P n ops Q rest (upd f d v) w) (hd : d < n := by decide) : L P n ops Q (⟨some d, .pick c x y, ty, pos, aft, none⟩ :: rest) f w := L_pick_f hc hb hv hd h
theorem li {T : TypeId} {x : Operand} {p : Value} {y : Int} (hT : Ty P T Int) (hx : ev f x = p) (hP : Ptr s p y) (h : L P n ops Q rest (upd f d (.int .i64 y)) s.w) (hd : d < n := by decide) : L P n ops Q (⟨some d, .load T x, ty, pos, aft, none⟩ :: rest) f s.w := L_load_int hT hx hP hd h
theorem nn {nx : Fr → World → Prop} (h : nx f w) : L P n ops (Then nx Q) [] f w := L_nil (then_n h)
theorem sr {id : Nat} {l : List Oper} {y : Code} (h : L P n l.toArray (Then (fun f w => W P n y Q f w) Q) l f w) : W P n (.seq (.region id l.toArray false) y) Q f w := W_seq (W_region h)
theorem fin {Φ : Value → St → Prop} {v : Value} (hk : ∀ v s', Ext s s' → Φ v s' → Q .normal (updO f (some d) v) s'.w) (x : Φ v s) : L P n ops Q [] (upd f d v) s.w := L_nil (hk v s (Ext.refl s) x)
end
end Go.Arm
namespace Go.Arm
open Go
theorem rv (v : Value) : v = v := rfl
abbrev vi (n : Int) : Value := .int .i64 n
abbrev vb (b : Bool) : Value := .bool b
theorem tf (b : Bool) : b = true ∨ b = false := Bool.eq_false_or_eq_true b
end Go.Arm
namespace Go.Arm
open Go Go.RowKit
section
variable {P : Program} {n : Nat} {Q : Post} {f : Fr} {w : World} {ops : Array Oper} {rest : List Oper} {s : St}
variable {d : Nat} {ty : TypeId} {pos : String} {aft : Array Edge}
theorem ld {α : Type} [Rep α] {T : TypeId} {x : Operand} {p : Value} {y : α} (hT : Ty P T α) (hx : ev f x = p) (hP : Ptr s p y) (h : ∀ v, V s v y → L P n ops Q rest (upd f d v) s.w) (hd : d < n := by decide) : L P n ops Q (⟨some d, .load T x, ty, pos, aft, none⟩ :: rest) f s.w := L_load hT hx hP hd h
theorem fa {α β : Type} [Rep α] [Rep β] {T : TypeId} {k off sz : Nat} {ft : TypeId} {x : Operand} {p : Value} {a : α} {proj : α → β} (hT : fieldAt P T k = some (off, ft, sz + 1)) (hF : FieldOf proj off) (hx : ev f x = p) (hP : Ptr s p a) (h : ∀ q, Ptr s q (proj a) → L P n ops Q rest (upd f d q) w) (hd : d < n := by decide) : L P n ops Q (⟨some d, .fieldAddr T x k, ty, pos, aft, none⟩ :: rest) f w := L_fieldAddr hT hF hx hP hd h
theorem ix {α : Type} [Rep α] {T E : TypeId} {x i : Operand} {v : Value} {xs : List α} {k : IntKind} {j : Int} {y : α} (hT : P.underlying T = some (.slice E)) (hE : (P.info? E).map (·.size) = some (Rep.size α)) (hx : ev f x = v) (hV : V s v xs) (hi : ev f i = .int k j) (hy : idx xs j = some y) (h : ∀ p, Ptr s p y → L P n ops Q rest (upd f d p) w) (hd : d < n := by decide) : L P n ops Q (⟨some d, .indexAddr T x i, ty, pos, aft, none⟩ :: rest) f w := L_index hT hE hx hV hi hy hd h
theorem ln {α : Type} [Rep α] {T : TypeId} {x : Operand} {v : Value} {xs : List α} {E : TypeId} (hT : P.underlying T = some (.slice E)) (hx : ev f x = v) (hV : V s v xs) (h : L P n ops Q rest (upd f d (.int .i64 xs.length)) w) (hd : d < n := by decide) : L P n ops Q (⟨some d, .call ⟨.builtin .len, #[x], #[T]⟩, ty, pos, aft, none⟩ :: rest) f w := L_len hT hx hV hd h
theorem el {T T' : TypeId} {x y : Operand} {k : IntKind} {a b : Int} (hx : ev f x = .int k a) (hy : ev f y = .int k b) (h : L P n ops Q rest (upd f d (.bool (decide (a = b)))) w) (hd : d < n := by decide) : L P n ops Q (⟨some d, .binOp .eql T x y T', ty, pos, aft, none⟩ :: rest) f w := L_eql hx hy hd h
theorem ne {T T' : TypeId} {x y : Operand} {k : IntKind} {a b : Int} (hx : ev f x = .int k a) (hy : ev f y = .int k b) (h : L P n ops Q rest (upd f d (.bool (!decide (a = b)))) w) (hd : d < n := by decide) : L P n ops Q (⟨some d, .binOp .neq T x y T', ty, pos, aft, none⟩ :: rest) f w := L_neq hx hy hd h
theorem ls {T T' : TypeId} {x y : Operand} {k : IntKind} {a b : Int} (hx : ev f x = .int k a) (hy : ev f y = .int k b) (h : L P n ops Q rest (upd f d (.bool (decide (a < b)))) w) (hd : d < n := by decide) : L P n ops Q (⟨some d, .binOp .lss T x y T', ty, pos, aft, none⟩ :: rest) f w := L_lss hx hy hd h
theorem ad {T T' : TypeId} {x y : Operand} {a b : Int} (hx : ev f x = .int .i64 a) (hy : ev f y = .int .i64 b) (hr : inR (a + b)) (h : L P n ops Q rest (upd f d (.int .i64 (a + b))) w) (hd : d < n := by decide) : L P n ops Q (⟨some d, .binOp .add T x y T', ty, pos, aft, none⟩ :: rest) f w := L_add hx hy hr hd h
theorem xt {x : Operand} {k : Nat} {vs : Array Value} {v : Value} (hx : ev f x = .tuple vs) (hv : vs[k]? = some v) (h : L P n ops Q rest (upd f d v) w) (hd : d < n := by decide) : L P n ops Q (⟨some d, .extract x k, ty, pos, aft, none⟩ :: rest) f w := L_extract hx hv hd h
end
end Go.Arm
namespace Go.Arm
open Go Go.RowKit
/-- An unsigned number of 64 bits. -/
structure U64 where
  n : Int
  deriving DecidableEq
instance : Rep U64 where
  size := 1
  agg := false
  rel _ cs x := cs = [.int .u64 x.n]
  len h := by rw [h]; rfl
  mono _ h := h
  one h v hv := by rw [h] at hv; simp at hv; rw [hv]; rfl
  single _ := rfl
/-! Operations on numbers of any kind, as they are. -/
def addK (k : IntKind) (a b : Int) : Int := k.wrap (a + b)
def subK (k : IntKind) (a b : Int) : Int := k.wrap (a - b)
def mulK (k : IntKind) (a b : Int) : Int := k.wrap (a * b)
def andK (k : IntKind) (a b : Int) : Int := k.wrap (BitVec.ofInt k.bits a &&& BitVec.ofInt k.bits b).toNat
def orK (k : IntKind) (a b : Int) : Int := k.wrap (BitVec.ofInt k.bits a ||| BitVec.ofInt k.bits b).toNat
def xorK (k : IntKind) (a b : Int) : Int := k.wrap (BitVec.ofInt k.bits a ^^^ BitVec.ofInt k.bits b).toNat
def shlK (k : IntKind) (a y : Int) : Int := k.wrap (a * 2 ^ (min y.toNat k.bits))
def shrK (k : IntKind) (a y : Int) : Int := a.fdiv (2 ^ (min y.toNat k.bits))
def convK (k : IntKind) (a : Int) : Int := k.wrap a
section
variable {P : Program} {n : Nat} {Q : Post} {f : Fr} {w : World} {ops : Array Oper} {rest : List Oper} {s : St}
variable {d : Nat} {ty : TypeId} {pos : String} {aft : Array Edge} {α β : Type} [Rep α] [Rep β]

theorem equalIn_nil {T E : TypeId} (hT : P.underlying T = some (.slice E)) (base : Option Addr) (l c : Nat) (k : Nat) : (Op.equalIn (k + 1) T (.slice base l c) (.slice none 0 0)).run P w = .ok base.isNone w := by
  unfold Op.equalIn
  simp only [Sem.run_bind, run_underlying hT, Result.andThen_ok]
  cases base <;> rfl
/-- A slice that is nil has no elements. -/
theorem L_eqNil {T T' : TypeId} {x : Operand} {v : Value} {xs : List α} {E : TypeId} (hT : P.underlying T = some (.slice E)) (hx : ev f x = v) (hV : V s v xs) (hd : d < n)
    (h : ∀ c, (c = true → xs = []) → L P n ops Q rest (upd f d (.bool c)) w) :
    L P n ops Q (⟨some d, .binOp .eql T x (.const (.slice none 0 0)) T', ty, pos, aft, none⟩ :: rest) f w := by
  obtain ⟨base, cap, rfl, _, hb⟩ := hV.slice
  refine L_val (v := .bool base.isNone) rfl (fun k e => by cases e; exact hd) ?_ (h _ ?_)
  · have he : (Op.equal T (.slice base xs.length cap) (.slice none 0 0)).run P w = .ok base.isNone w := by
      unfold Op.equal
      rw [show Op.maxDepth = 9999 + 1 from rfl]
      exact equalIn_nil hT base xs.length cap 9999
    have hb : binOp .eql T (.slice base xs.length cap) (.slice none 0 0) = (do pure (.bool (← Op.equal T (.slice base xs.length cap) (.slice none 0 0)))) := rfl
    have hg : eqGuard .eql T x (.const (.slice none 0 0)) (.slice base xs.length cap) (.slice none 0 0) = pure () := rfl
    have hc : ev f (.const (.slice none 0 0)) = .slice none 0 0 := rfl
    simp only [execOp, hx, hc]
    rw [hg, hb]
    simp only [Sem.run_bind, Sem.run_pure, Result.andThen_ok, he]
  · intro hn
    cases xs with
    | nil => rfl
    | cons y ys =>
      obtain ⟨b, o, e, _⟩ := hb (by simp)
      rw [e] at hn; cases hn
end
end Go.Arm
namespace Go.Arm
open Go Go.RowKit
section
variable {P : Program} {n : Nat} {Q : Post} {f : Fr} {w : World} {ops : Array Oper} {rest : List Oper} {s : St}
variable {d : Nat} {ty : TypeId} {pos : String} {aft : Array Edge} {α β : Type} [Rep α] [Rep β]

end
/-- An array of one's own, as it is met in a drawn region. -/
def PX.arr {α : Type} [Rep α] (b : Nat) (E : TypeId) (len : Nat) (xs : List α) : PX :=
  ⟨fun v s => v = .slice (some ⟨b, 0, none⟩) len len ∧ Arr s b E len xs, Arm.own, fun ⟨e, h⟩ t hn => ⟨e, h.tch t (hn b (by rw [e]; rfl))⟩, fun ⟨e, h⟩ hb => by rw [e] at hb; cases hb; exact h.lt⟩
theorem own_slice {v : Value} {b len k : Nat} (e : v = .slice (some ⟨b, 0, none⟩) len len) (h : own v k) : k = b := by rw [e] at h; cases h; rfl
end Go.Arm
namespace Go.Arm
open Go Go.RowKit

/-- A text, as its bytes. -/
structure Txt where
  b : List UInt8
  deriving DecidableEq
def Txt.v (x : Txt) : ByteArray := ⟨⟨x.b⟩⟩
instance : Rep Txt where
  size := 1
  agg := false
  rel _ cs x := cs = [.string x.v]
  len h := by rw [h]; rfl
  mono _ h := h
  one h v hv := by rw [h] at hv; simp at hv; rw [hv]; rfl
  single _ := rfl
def txtOf (l : List U8) : Txt := ⟨l.map fun x => UInt8.ofNat x.n.toNat⟩
section
variable {P : Program} {n : Nat} {Q : Post} {f : Fr} {w : World} {ops : Array Oper} {rest : List Oper} {s : St}
variable {d : Nat} {ty : TypeId} {pos : String} {aft : Array Edge} {α β : Type} [Rep α] [Rep β]

end
end Go.Arm
namespace Go.Arm
open Go Go.RowKit

/-- An array of a fixed length. -/
structure AV (n : Nat) (α : Type) where
  l : List α
  deriving DecidableEq
instance {n : Nat} {α : Type} [Rep α] : Rep (AV n α) where
  size := n * Rep.size α
  agg := true
  rel s cs x := x.l.length = n ∧ cs.length = n * Rep.size α ∧ (∀ v, v ∈ cs → v.oneCell' = true) ∧ ∀ i (h : i < x.l.length), Rep.rel s ((cs.drop (i * Rep.size α)).take (Rep.size α)) x.l[i]
  len h := h.2.1
  mono l h := ⟨h.1, h.2.1, h.2.2.1, fun i hi => Rep.mono l (h.2.2.2 i hi)⟩
  one h := h.2.2.1
  single h := by cases h
section
variable {P : Program} {n : Nat} {Q : Post} {f : Fr} {w : World} {ops : Array Oper} {rest : List Oper} {s : St}
variable {d : Nat} {ty : TypeId} {pos : String} {aft : Array Edge} {α β : Type} [Rep α] [Rep β]

end
end Go.Arm
namespace Go.Arm
open Go Go.RowKit

/-- A list into which another is copied, from place lo on. -/
def cpy {α : Type} (xs : List α) (lo : Nat) (ys : List α) : List α := xs.take lo ++ ys.take (xs.length - lo) ++ xs.drop (lo + min ys.length (xs.length - lo))
section
variable {P : Program} {n : Nat} {Q : Post} {f : Fr} {w : World} {ops : Array Oper} {rest : List Oper} {s : St}
variable {d : Nat} {ty : TypeId} {pos : String} {aft : Array Edge} {α β : Type} [Rep α] [Rep β]

/-- An array's end, from place lo on. -/
def endV (b len sz lo : Nat) : Value := .slice (some ⟨b, lo * sz, none⟩) (len - lo) (len - lo)
end
/-- A fresh array, as a result. -/
def ArrR {α : Type} [Rep α] (B : Nat) (E : TypeId) (s : St) (v : Value) (xs : List α) : Prop := ∃ b, B ≤ b ∧ v = .slice (some ⟨b, 0, none⟩) xs.length xs.length ∧ Arr s b E xs.length xs
/-- A value, with an array of one's own that is the operation's. -/
def PX.pin {α : Type} [Rep α] (x : Value) (b : Nat) (E : TypeId) (len : Nat) (xs : List α) : PX :=
  ⟨fun v s => v = x ∧ Arr s b E len xs, fun _ k => k = b, fun ⟨e, h⟩ t hn => ⟨e, h.tch t (hn b rfl)⟩, fun ⟨_, h⟩ hb => by subst hb; exact h.lt⟩
end Go.Arm
namespace Go.Arm
open Go Go.RowKit

/-- What a function value may change: a predicate on its content, and its blocks. -/
structure Eff (σ : Type) where
  p : σ → St → Prop
  M : Nat → Prop
  m : ∀ {q : σ} {s s' : St} {M' : Nat → Prop}, p q s → Tch M' s s' → (∀ k, M k → ¬ M' k) → p q s'
  lt : ∀ {q : σ} {s : St} {k : Nat}, p q s → M k → k < s.w.heap.size
section
variable {σ : Type} {I : Eff σ} {s s' : St} {q : σ} {M : Nat → Prop}
def EffAt (I : Eff σ) (s : St) (q : σ) : Prop := I.p q s
theorem EffAt.tch (h : EffAt I s q) (t : Tch M s s') (hn : ∀ k, I.M k → ¬ M k) : EffAt I s' q := I.m h t hn
theorem EffAt.ext (h : EffAt I s q) (t : Ext s s') : EffAt I s' q := I.m h t (fun _ _ x => x)
theorem EffAt.lt {k : Nat} (h : EffAt I s q) (hk : I.M k) : k < s.w.heap.size := I.lt h hk
end
section
variable {P : Program} {n : Nat} {Q : Post} {f : Fr} {w : World} {ops : Array Oper} {rest : List Oper} {s : St}
variable {d : Nat} {ty : TypeId} {pos : String} {aft : Array Edge} {α β : Type} [Rep α] [Rep β] {σ : Type} {I : Eff σ}

/-- A function value of one argument that changes what I says, from here on. -/
def FnE (P : Program) (s : St) (v : Value) (I : Eff σ) (g : α → σ → Option σ) : Prop :=
  ∃ k cap, v = .func (.func k) #[] cap ∧ Callee P k ∧
    ∀ s' vx x q r, Le s s' → V s' vx x → EffAt I s' q → g x q = some r → Calls P k (#[vx] ++ cap) s'.w (RetM I.M s' fun _ s'' => EffAt I s'' r)
theorem FnE.mono {v : Value} {g : α → σ → Option σ} {s' : St} (h : FnE P s v I g) (l : Le s s') : FnE P s' v I g := by
  obtain ⟨k, cap, e, hk, h⟩ := h
  exact ⟨k, cap, e, hk, fun s'' vx x q r l' => h s'' vx x q r (l.trans l')⟩
end
/-- Four variables, of which the first is only read. -/
def Eff.vars4 {α β γ δ : Type} [Rep α] [Rep β] [Rep γ] [Rep δ] (b1 : Nat) (E1 : TypeId) (x1 : α) (b2 : Nat) (E2 : TypeId) (b3 : Nat) (E3 : TypeId) (b4 : Nat) (E4 : TypeId) : Eff (β × γ × δ) where
  p q s := Var s b2 E2 q.1 ∧ Var s b3 E3 q.2.1 ∧ Var s b4 E4 q.2.2 ∧ Var s b1 E1 x1
  M k := k = b1 ∨ k = b2 ∨ k = b3 ∨ k = b4
  m h t hn := ⟨h.1.tch t (hn _ (.inr (.inl rfl))), h.2.1.tch t (hn _ (.inr (.inr (.inl rfl)))), h.2.2.1.tch t (hn _ (.inr (.inr (.inr rfl)))), h.2.2.2.tch t (hn _ (.inl rfl))⟩
  lt h hk := by
    rcases hk with hk | hk | hk | hk <;> subst hk
    · exact h.2.2.2.lt
    · exact h.1.lt
    · exact h.2.1.lt
    · exact h.2.2.1.lt
/-! Three entries. -/
section
variable {f : Fr}
end
end Go.Arm
namespace Go.Arm
open Go Go.RowKit
section
variable {P : Program} {n : Nat} {Q : Post} {f : Fr} {w : World} {ops : Array Oper} {rest : List Oper}
variable {d : Nat} {ty : TypeId} {pos : String} {aft : Array Edge}
end
end Go.Arm
