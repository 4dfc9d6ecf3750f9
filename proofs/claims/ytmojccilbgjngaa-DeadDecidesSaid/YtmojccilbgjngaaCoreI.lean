/- Drawn regions that fill a map of their own (map literals). -/
import Derived.Test.YtmojccilbgjngaaCoreH
namespace Go.Arm
open Go Go.RowKit

structure PL where
 p : Value → St → Prop
 m : ∀ v s s', p v s → Le s s' → p v s'
def PL.eq (x : Value) : PL := ⟨fun v _ => v = x, fun _ _ _ h _ => h⟩
def PL.any : PL := ⟨fun _ _ => True, fun _ _ _ h _ => h⟩
def PL.data {α : Type} [Rep α] (x : α) : PL := ⟨fun v s => V s v x, fun _ _ _ h e => h.mono e⟩
def PL.ptr {α : Type} [Rep α] (x : α) : PL := ⟨fun v s => Ptr s v x, fun _ _ _ h e => h.mono e⟩
def PL.two (a b : PL) : PL := ⟨fun v s => ∃ x y, v = .tuple #[x, y] ∧ a.p x s ∧ b.p y s, fun _ s s' ⟨x, y, e, h, k⟩ l => ⟨x, y, e, a.m x s s' h l, b.m y s s' k l⟩⟩
def PL.three (a b c : PL) : PL := ⟨fun v s => ∃ x y z, v = .tuple #[x, y, z] ∧ a.p x s ∧ b.p y s ∧ c.p z s, fun _ s s' ⟨x, y, z, e, h, k, j⟩ l => ⟨x, y, z, e, a.m x s s' h l, b.m y s s' k l, c.m z s s' j l⟩⟩

structure RawV where
 v : Value
instance : Rep RawV where
 size := 1
 agg := false
 rel _ cs x := cs = [x.v] ∧ x.v.oneCell' = true
 len := by rintro s cs x ⟨rfl, _⟩; rfl
 mono := fun _ h => h
 one := by rintro s cs x ⟨rfl, h⟩ v hv; simp at hv; subst hv; exact h
 single _ := rfl
theorem V.raw {s : St} {v : Value} {x : RawV} (h : V s v x) : v = x.v := by obtain ⟨cs, ⟨rfl, _⟩, rfl⟩ := h; rfl
theorem Vraw {s : St} {v : Value} (h : v.oneCell' = true) : V s v (⟨v⟩ : RawV) := ⟨[v], ⟨rfl, h⟩, rfl⟩

def MapQ {β : Type} [Rep β] (s : St) (v : Value) (L : List (Int × β)) : Prop := ∃ m, MapV s v m ∧ m.Perm L ∧ (L.map (·.1)).Nodup
def PL.mapq {β : Type} [Rep β] (L : List (Int × β)) : PL := ⟨fun v s => MapQ s v L, fun _ _ _ ⟨m, h, p⟩ e => ⟨m, h.mono e, p⟩⟩

theorem mget_perm {β : Type} {m L : List (Int × β)} (hp : m.Perm L) (hn : (L.map (·.1)).Nodup) (k : Int) : mget m k = mget L k := by
 have hnm : (m.map (·.1)).Nodup := (hp.map _).nodup_iff.2 hn
 have key : ∀ (l : List (Int × β)), (l.map (·.1)).Nodup → ∀ e, e ∈ l → mget l e.1 = some e.2 := by
  intro l
  induction l with
  | nil => intro _ e he; simp at he
  | cons a l ih =>
   intro hl e he
   simp only [List.map_cons, List.nodup_cons] at hl
   rcases List.mem_cons.1 he with rfl | he
   ·simp [mget]
   ·have hne : a.1 ≠ e.1 := fun h => hl.1 (h ▸ List.mem_map_of_mem he)
    have := ih hl.2 e he
    unfold mget at this ⊢
    rw [List.find?_cons_of_neg (by simpa using hne)]
    exact this
 cases hL : mget L k with
 | none =>
  cases hm : mget m k with
  | none => rfl
  | some x =>
   unfold mget at hm
   obtain ⟨e, h1, h2⟩ := Option.map_eq_some_iff.1 hm
   have he := List.find?_some h1
   have hk : e.1 = k := by simpa using he
   have := key L hn e (hp.mem_iff.1 (List.mem_of_find?_eq_some h1))
   rw [hk, hL] at this; cases this
 | some x =>
  unfold mget at hL
  obtain ⟨e, h1, h2⟩ := Option.map_eq_some_iff.1 hL
  have he := List.find?_some h1
  have hk : e.1 = k := by simpa using he
  have := key m hnm e (hp.mem_iff.2 (List.mem_of_find?_eq_some h1))
  rw [hk] at this
  rw [this, h2]

def setL (l : Nat → Bool) (i : Nat) : Nat → Bool := fun j => decide (j = i) || l j
def picked {β : Type} (ins : List (Nat × Int × β)) (l : Nat → Bool) : List (Int × β) := (ins.filter fun e => l e.1).map (·.2)
def IM {β : Type} [Rep β] (B sl i0 i9 : Nat) (ins : List (Nat × Int × β)) (l : Nat → Bool) (f : Fr) (s : St) : Prop :=
 l i0 = true → l i9 = false → ∃ b m, f sl = .map (some b) ∧ B ≤ b ∧ MapX s b m ∧ m.Perm (picked ins l)

section
variable {β : Type} [Rep β] {B sl i0 i9 : Nat} {ins : List (Nat × Int × β)} {l : Nat → Bool} {f : Fr} {s s' : St}
theorem picked_keep {β : Type} {ins : List (Nat × Int × β)} {i : Nat} (h : ins.all (fun e => e.1 != i) = true) : picked ins (setL l i) = picked ins l := by
 unfold picked
 congr 1
 apply List.filter_congr
 intro e he
 rw [List.all_eq_true] at h
 have := h e he
 simp only [bne_iff_ne, ne_eq] at this
 simp [setL, this]
theorem IM_keep {i : Nat} {d : Option Nat} {v : Value} (h : IM B sl i0 i9 ins l f s) (E : Ext s s') (h0 : (i != i0) = true) (h9 : (i != i9) = true) (hi : ins.all (fun e => e.1 != i) = true) (hd : (d != some sl) = true) :
  IM B sl i0 i9 ins (setL l i) (updO f d v) s' := by
 intro g1 g2
 simp only [bne_iff_ne, ne_eq] at h0 h9 hd
 have e1 : l i0 = true := by simpa [setL, Ne.symm h0] using g1
 have e2 : l i9 = false := by simpa [setL, Ne.symm h9] using g2
 obtain ⟨b, m, k1, k2, k3, k4⟩ := h e1 e2
 refine ⟨b, m, ?_, k2, k3.ext E, by rw [picked_keep hi]; exact k4⟩
 cases d with
 | none => exact k1
 | some d => simp only [updO, upd]; rw [if_neg (fun e => hd (by rw [e]))]; exact k1
theorem IM_new {b : Nat} (h : MapX s b ([] : List (Int × β))) (hB : B ≤ b) (hl : ∀ e, e ∈ ins → l e.1 = false) (hi : ins.all (fun e => e.1 != i0) = true) :
  IM B sl i0 i9 ins (setL l i0) (updO f (some sl) (.map (some b))) s := by
 intro _ _
 refine ⟨b, [], by simp [updO, upd], hB, h, ?_⟩
 rw [picked_keep hi]
 have : picked ins l = [] := by
  unfold picked
  rw [List.map_eq_nil_iff, List.filter_eq_nil_iff]
  intro e he; simp [hl e he]
 rw [this]
theorem picked_add {β : Type} {i : Nat} {k : Int} {x : β} (hi : l i = false) : ∀ {ins : List (Nat × Int × β)}, (ins.map (·.1)).Nodup → (i, k, x) ∈ ins → (picked ins l ++ [(k, x)]).Perm (picked ins (setL l i))
 | [], _, h => by simp at h
 | a :: r, hn, h => by
  simp only [List.map_cons, List.nodup_cons] at hn
  rcases List.mem_cons.1 h with rfl | h
  ·have hr : picked r (setL l i) = picked r l := picked_keep (by
    rw [List.all_eq_true]; intro e he
    simp only [bne_iff_ne, ne_eq]
    exact fun h => hn.1 (List.mem_map.2 ⟨e, he, h⟩))
   have e1 : picked ((i, k, x) :: r) l = picked r l := by simp [picked, hi]
   have e2 : picked ((i, k, x) :: r) (setL l i) = (k, x) :: picked r l := by rw [← hr]; simp [picked, setL]
   rw [e1, e2]
   exact List.perm_append_comm.trans (List.Perm.refl _)
  ·have hne : a.1 ≠ i := fun e => hn.1 (e ▸ List.mem_map_of_mem h)
   have ih := picked_add hi hn.2 h
   cases hl : l a.1 with
   | false =>
    have e1 : picked (a :: r) l = picked r l := by simp [picked, hl]
    have e2 : picked (a :: r) (setL l i) = picked r (setL l i) := by simp [picked, setL, hl, hne]
    rw [e1, e2]; exact ih
   | true =>
    have e1 : picked (a :: r) l = a.2 :: picked r l := by simp [picked, hl]
    have e2 : picked (a :: r) (setL l i) = a.2 :: picked r (setL l i) := by simp [picked, setL, hl]
    rw [e1, e2, List.cons_append]; exact ih.cons _
theorem mset_new {β : Type} {m : List (Int × β)} {k : Int} {x : β} (h : ∀ e, e ∈ m → e.1 ≠ k) : mset m k x = m ++ [(k, x)] := by
 unfold mset
 rw [if_neg]
 rw [List.any_eq_true]
 rintro ⟨e, he, h2⟩
 exact h e he (by simpa using h2)
theorem picked_fresh {β : Type} {i : Nat} {k : Int} {x : β} (hi : l i = false) : ∀ {ins : List (Nat × Int × β)}, (ins.map (·.2.1)).Nodup → (i, k, x) ∈ ins → ∀ e, e ∈ picked ins l → e.1 ≠ k
 | [], _, h => by simp at h
 | a :: r, hn, h => by
  simp only [List.map_cons, List.nodup_cons] at hn
  intro e he
  have hmem : ∀ e, e ∈ picked r l → ∃ q, q ∈ r ∧ q.2 = e := by
   intro e he
   unfold picked at he
   obtain ⟨q, h1, h2⟩ := List.mem_map.1 he
   exact ⟨q, (List.mem_filter.1 h1).1, h2⟩
  rcases List.mem_cons.1 h with rfl | h
  ·have e1 : picked ((i, k, x) :: r) l = picked r l := by simp [picked, hi]
   rw [e1] at he
   obtain ⟨q, h1, h2⟩ := hmem e he
   intro hk
   exact hn.1 (by rw [List.mem_map]; exact ⟨q, h1, by rw [h2]; exact hk⟩)
  ·cases hl : l a.1 with
   | false =>
    have e1 : picked (a :: r) l = picked r l := by simp [picked, hl]
    rw [e1] at he
    exact picked_fresh hi hn.2 h e he
   | true =>
    have e1 : picked (a :: r) l = a.2 :: picked r l := by simp [picked, hl]
    rw [e1] at he
    rcases List.mem_cons.1 he with rfl | he
    ·intro hk
     exact hn.1 (by rw [List.mem_map]; exact ⟨(i, k, x), h, hk.symm⟩)
    ·exact picked_fresh hi hn.2 h e he
theorem picked_all {β : Type} {ins : List (Nat × Int × β)} (h : ∀ e, e ∈ ins → l e.1 = true) : picked ins l = ins.map (·.2) := by
 unfold picked
 rw [List.filter_eq_self.2 h]
theorem IM_done (h : IM B sl i0 i9 ins l f s) (h0 : l i0 = true) (h9 : l i9 = false) (hl : ∀ e, e ∈ ins → l e.1 = true) (hn : (ins.map (·.2.1)).Nodup) {s0 : St} (hE : Ext s0 s) (hB : s0.w.heap.size ≤ B) :
  ∃ s', s'.w = s.w ∧ Ext s0 s' ∧ Le s s' ∧ MapQ s' (f sl) (ins.map (·.2)) := by
 obtain ⟨b, m, k1, k2, k3, k4⟩ := h h0 h9
 obtain ⟨s', e, t, z⟩ := k3.freeze
 refine ⟨s', e, Tch.trans hE t (fun k hk => .inr (by subst hk; omega)), t.le, m, by rw [k1]; exact z, by rw [← picked_all hl]; exact k4, ?_⟩
 rw [List.map_map]; exact hn
theorem IM_at {i : Nat} {d : Option Nat} {v : Value} (h9 : i = i9) : IM B sl i0 i9 ins (setL l i) (updO f d v) s := by
 intro _ h; simp [setL, h9] at h
theorem IM_none : IM B sl i0 i9 ins (fun _ => false) f s := by intro h; cases h
end

section
variable {P : Program} {n : Nat} {Q : Post} {f : Fr} {w : World} {ops : Array Oper} {rest : List Oper} {s : St}
variable {d : Nat} {ty : TypeId} {pos : String} {aft : Array Edge} {β : Type} [Rep β]

theorem L_insert {T K E : TypeId} {x k y : Operand} {b : Nat} {m : List (Int × β)} {i : Int} {v : Value} {z : β} (hT : P.underlying T = some (.map K E)) (hK : P.underlying K = some (.int .i64))
  (hx : ev f x = .map (some b)) (hk : ev f k = .int .i64 i) (hy : ev f y = v) (hM : MapX s b m) (hV : V s v z)
  (h : ∀ s', Tch (fun k => k = b) s s' → MapX s' b (mset m i z) → L P n ops Q rest f s'.w) :
  L P n ops Q (⟨none, .insert T x k y, ty, pos, aft, none⟩ :: rest) f s.w :=
 L_mapUpdate (ty := ty) (pos := pos) (aft := aft) hT hK hx hk hy hM hV h
theorem IM_insert {B sl i0 i9 : Nat} {ins : List (Nat × Int × β)} {l : Nat → Bool} {T K E : TypeId} {k y : Operand} {i : Int} {v : Value} {z : β} {q : Nat} {s0 : St}
  (hT : P.underlying T = some (.map K E)) (hK : P.underlying K = some (.int .i64)) (hI : IM B sl i0 i9 ins l f s) (h0 : l i0 = true) (h9 : l i9 = false) (hq : l q = false)
  (hk : ev f k = .int .i64 i) (hy : ev f y = v) (hV : V s v z) (hm : (q, i, z) ∈ ins) (hn1 : (ins.map (·.1)).Nodup) (hn2 : (ins.map (·.2.1)).Nodup) (hE : Ext s0 s) (hB : s0.w.heap.size ≤ B)
  (h : ∀ s', Ext s0 s' → Le s s' → IM B sl i0 i9 ins (setL l q) (updO f none undef) s' → L P n ops Q rest f s'.w) :
  L P n ops Q (⟨none, .insert T (.tmp sl) k y, ty, pos, aft, none⟩ :: rest) f s.w := by
 obtain ⟨b, m, k1, k2, k3, k4⟩ := hI h0 h9
 refine L_insert hT hK (show ev f (.tmp sl) = _ from k1) hk hy k3 hV (fun s' t hx => h s' (Tch.trans hE t (fun k hk => .inr (by subst hk; omega))) t.le (fun _ _ => ⟨b, _, k1, k2, hx, ?_⟩))
 have hf : ∀ e, e ∈ m → e.1 ≠ i := fun e he => picked_fresh hq hn2 hm e (k4.mem_iff.1 he)
 rw [mset_new hf]
 exact (k4.append_right _).trans (picked_add hq hn1 hm)

theorem L_lookup_q {T K E : TypeId} {x k : Operand} {v zv : Value} {m : List (Int × β)} {i : Int} {z0 : β} (hT : P.underlying T = some (.map K E)) (hK : P.underlying K = some (.int .i64))
  (hz : (P.info? E).map (·.zero) = some (some zv)) (hz0 : V s zv z0) (hx : ev f x = v) (hk : ev f k = .int .i64 i) (hM : MapQ s v m) (hd : d < n)
  (h : ∀ v, V s v ((mget m i).getD z0) → L P n ops Q rest (upd f d (.tuple #[v, .bool (mget m i).isSome])) s.w) : L P n ops Q (⟨some d, .lookup T x k true, ty, pos, aft, none⟩ :: rest) f s.w := by
 obtain ⟨m', h1, h2, h3⟩ := hM
 refine L_lookup_ok hT hK hz hz0 hx hk h1 hd ?_
 rw [mget_perm h2 h3]; exact h
end

section
variable {P : Program} {n : Nat} {Q : Post} {f : Fr}
def drawOkI (n : Nat) (ops : Array Oper) : Bool :=
 (List.range ops.size).all fun i => match ops[i]? with
  | none => true
  | some o => o.after.toList.all (fun e => !Region.binds .any e || decide (e.on < i)) &&
   (match o.dst with
   | none => true
   | some d => decide (d < n) && (List.range ops.size).all fun j => decide (j = i) || (match ops[j]? with | some o' => o'.dst != some d | none => true))

structure DrawSpecI (n : Nat) (ops : Array Oper) : Prop where
 edge : ∀ (i : Nat) (o : Oper), ops[i]? = some o → ∀ e, e ∈ o.after.toList → Region.binds .any e = true → e.on < i
 uniq : ∀ (i j : Nat) (o o' : Oper) (d : Nat), ops[i]? = some o → ops[j]? = some o' → o.dst = some d → o'.dst = some d → i = j

theorem drawOkI_spec {ops : Array Oper} (h : drawOkI n ops = true) : DrawSpecI n ops := by
 unfold drawOkI at h
 rw [List.all_eq_true] at h
 refine ⟨fun i o ho e he hb => ?_, fun i j o o' d ho ho' hd hd' => ?_⟩
 ·have hi := (Array.getElem?_eq_some_iff.1 ho).1
  have := h i (by simpa using hi)
  rw [ho] at this
  simp only [Bool.and_eq_true, List.all_eq_true] at this
  have := this.1 e he
  simpa [hb] using this
 ·have hi := (Array.getElem?_eq_some_iff.1 ho).1
  have := h i (by simpa using hi)
  rw [ho] at this
  simp only [hd, Bool.and_eq_true, decide_eq_true_eq, List.all_eq_true] at this
  have hj := (Array.getElem?_eq_some_iff.1 ho').1
  have h2 := this.2.2 j (by simpa using hj)
  rw [ho'] at h2
  rcases Nat.decEq j i with hne | hne
  ·simp [hne, hd'] at h2
  ·exact hne.symm

def StepI (P : Program) (n : Nat) (ops : Array Oper) (I : (Nat → Bool) → Fr → St → Prop) (s0 : St) (i : Nat) (o : Oper) (l : Nat → Bool) (f : Fr) (s : St) (Φ : Value → St → Prop) : Prop :=
 ∀ (Q : Post), (∀ v s', Ext s0 s' → Le s s' → Φ v s' → I (setL l i) (updO f o.dst v) s' → Q .normal (updO f o.dst v) s'.w) → L P n ops Q [o] f s.w

def StepsI (P : Program) (n : Nat) (ops : Array Oper) (I : (Nat → Bool) → Fr → St → Prop) (pls : List PL) (f : Fr) (s : St) : List Oper → Nat → Prop
 | [], _ => True
 | o :: r, i => (∀ l f' s', l i = false → (∀ j, aheadOf o j = true → l j = true) → (∀ j o', ops[j]? = some o' → aheadOf o' i = true → l j = false) → Ext s s' →
   (∀ j d, aheadOf o j = true → dstOf ops j = some d → (pls.getD j PL.any).p (f' d) s') → (∀ t, slotFree ops i t = true → f' t = f t) → I l f' s' →
   StepI P n ops I s i o l f' s' (pls.getD i PL.any).p) ∧ StepsI P n ops I pls f s r (i + 1)
theorem StepsI_nil {ops : Array Oper} {I : (Nat → Bool) → Fr → St → Prop} {pls : List PL} {s : St} {i : Nat} : StepsI P n ops I pls f s [] i := trivial
theorem StepsI_cons {ops : Array Oper} {I : (Nat → Bool) → Fr → St → Prop} {pls : List PL} {s : St} {i : Nat} {o : Oper} {r : List Oper}
  (h : ∀ l f' s', l i = false → (∀ j, aheadOf o j = true → l j = true) → (∀ j o', ops[j]? = some o' → aheadOf o' i = true → l j = false) → Ext s s' →
   (∀ j d, aheadOf o j = true → dstOf ops j = some d → (pls.getD j PL.any).p (f' d) s') → (∀ t, slotFree ops i t = true → f' t = f t) → I l f' s' →
   StepI P n ops I s i o l f' s' (pls.getD i PL.any).p) (k : StepsI P n ops I pls f s r (i + 1)) : StepsI P n ops I pls f s (o :: r) i := ⟨h, k⟩
theorem StepsI.get {ops : Array Oper} {I : (Nat → Bool) → Fr → St → Prop} {pls : List PL} {s : St} : ∀ {l : List Oper} {k : Nat}, StepsI P n ops I pls f s l k → ∀ (i : Nat) (o : Oper), l[i]? = some o →
   ∀ l f' s', l (k + i) = false → (∀ j, aheadOf o j = true → l j = true) → (∀ j o', ops[j]? = some o' → aheadOf o' (k + i) = true → l j = false) → Ext s s' →
   (∀ j d, aheadOf o j = true → dstOf ops j = some d → (pls.getD j PL.any).p (f' d) s') → (∀ t, slotFree ops (k + i) t = true → f' t = f t) → I l f' s' →
   StepI P n ops I s (k + i) o l f' s' (pls.getD (k + i) PL.any).p
 | [], _, _, i, o, h => by simp at h
 | a :: l, k, ⟨h1, h2⟩, 0, o, h => by simp at h; subst h; exact h1
 | a :: l, k, ⟨h1, h2⟩, i + 1, o, h => by
  have := StepsI.get h2 i o (by simpa using h)
  rw [show k + 1 + i = k + (i + 1) by omega] at this
  exact this

theorem W_drawI {id : Nat} {s : St} {l : List Oper} (hm : P.follows .mixedOrders = true) (hok : drawOkI n l.toArray = true) (I : (Nat → Bool) → Fr → St → Prop) (pls : List PL)
  (hI0 : ∀ s', I (fun _ => false) f s') (steps : StepsI P n l.toArray I pls f s l 0)
  (fin : ∀ f' s', Ext s s' → (∀ j d, dstOf l.toArray j = some d → (pls.getD j PL.any).p (f' d) s') → (∀ t, unwritten l.toArray t = true → f' t = f t) → Q .normal f' s'.w) :
  W P n (.region id l.toArray true) Q f s.w := by
 have sp := drawOkI_spec hok
 generalize hops : l.toArray = ops at *
 intro a ha
 refine wp_region_any hm ?_
 have main : ∀ (fuel : Nat) (listed : Array Bool) (a : Act) (f' : Fr) (s' : St), listed.size = ops.size → listed.toList.countP (fun b => !b) = fuel → Fits n f' a → Ext s s' →
   (∀ (j : Nat) (o' : Oper) (d : Nat), listed.getD j false = true → ops[j]? = some o' → o'.dst = some d → (pls.getD j PL.any).p (f' d) s') →
   (∀ (j : Nat) (o' : Oper), listed.getD j false = true → ops[j]? = some o' → ∀ e, e ∈ o'.after.toList → Region.binds .any e = true → listed.getD e.on false = true) →
   (∀ t, (∀ (j : Nat) (o' : Oper), listed.getD j false = true → ops[j]? = some o' → o'.dst ≠ some t) → f' t = f t) → I (fun j => listed.getD j false) f' s' →
   wpAny P .any ops (lift n Q) fuel listed a s'.w := by
  intro fuel
  induction fuel with
  | zero =>
   intro listed a f' s' hsz hcnt hfit hE hΦ hcl hfr hI
   have hall : ∀ j, j < ops.size → listed.getD j false = true := by
    intro j hj
    have hj' : j < listed.size := by omega
    have := List.countP_eq_zero.1 hcnt (listed[j]) (by simp)
    rw [Array.getD_eq_getD_getElem?, Array.getElem?_eq_getElem hj']
    simpa using this
   refine ⟨?_, f', hfit, fin f' s' hE (fun j d h2 => ?_) (fun t ht => hfr t (fun j o' _ ho' hd => ?_))⟩
   ·cases hr : Region.ready .any ops listed with
    | nil => rfl
    | cons i r =>
     have hi : i ∈ Region.ready .any ops listed := by rw [hr]; simp
     obtain ⟨h1, o, ho, _⟩ := mem_ready.1 hi
     have := hall i (Array.getElem?_eq_some_iff.1 ho).1
     have hi' : i < listed.size := by rw [hsz]; exact (Array.getElem?_eq_some_iff.1 ho).1
     rw [Array.getD_eq_getD_getElem?, Array.getElem?_eq_getElem hi'] at h1 this
     simp at h1 this
     rw [h1] at this; cases this
   ·unfold dstOf at h2
    obtain ⟨o', h3, h4⟩ := Option.bind_eq_some_iff.1 h2
    exact hΦ j o' d (hall j (Array.getElem?_eq_some_iff.1 h3).1) h3 h4
   ·unfold unwritten at ht
    rw [List.all_eq_true] at ht
    have := ht o' (by obtain ⟨h1, h2⟩ := Array.getElem?_eq_some_iff.1 ho'; rw [← h2]; simp)
    rw [hd] at this; simp at this
  | succ fuel ih =>
   intro listed a f' s' hsz hcnt hfit hE hΦ hcl hfr hI
   refine ⟨fun hr => ?_, fun i hi => ?_⟩
   ·exfalso
    have hex : ∃ j, j < listed.size ∧ listed.getD j true = false := by
     have hpos : 0 < listed.toList.countP (fun b => !b) := by omega
     obtain ⟨x, hx, hb⟩ := List.countP_pos_iff.1 hpos
     obtain ⟨j, hj, e⟩ := List.getElem_of_mem hx
     refine ⟨j, by simpa using hj, ?_⟩
     rw [Array.getD_eq_getD_getElem?, Array.getElem?_eq_getElem (by simpa using hj)]
     simp at hb e ⊢
     rw [e, hb]
    obtain ⟨j, ⟨hj, hf⟩, hmin⟩ := least_of hex
    have hjo : j < ops.size := by omega
    have : j ∈ Region.ready .any ops listed := mem_ready.2 ⟨hf, ops[j], Array.getElem?_eq_getElem hjo, fun e he hb => by
     have hlt := sp.edge j _ (Array.getElem?_eq_getElem hjo) e (by simpa using he) hb
     have hl' : e.on < listed.size := by omega
     cases hv : listed.getD e.on false with
     | true => rfl
     | false =>
      have : listed.getD e.on true = false := by
       rw [Array.getD_eq_getD_getElem?, Array.getElem?_eq_getElem hl'] at hv ⊢
       simpa using hv
      have := hmin e.on ⟨hl', this⟩
      omega⟩
    rw [hr] at this; simp at this
   ·obtain ⟨hun, o, ho, haft⟩ := mem_ready.1 hi
    have hil : i < listed.size := by rw [hsz]; exact (Array.getElem?_eq_some_iff.1 ho).1
    have hun' : listed.getD i false = false := by
     rw [Array.getD_eq_getD_getElem?, Array.getElem?_eq_getElem hil] at hun ⊢
     simpa using hun
    have hwait : ∀ (k : Nat) (o' : Oper), ops[k]? = some o' → aheadOf o' i = true → listed.getD k false = false := by
     intro k o' ho' hah
     cases hk : listed.getD k false with
     | false => rfl
     | true =>
      unfold aheadOf at hah
      rw [Array.any_eq_true'] at hah
      obtain ⟨e, he, hb⟩ := hah
      simp only [Bool.and_eq_true, beq_iff_eq] at hb
      have := hcl k o' hk ho' e (by simpa using he) hb.1
      rw [hb.2, hun'] at this; cases this
    have hah : ∀ j, aheadOf o j = true → listed.getD j false = true := by
     intro j hj
     unfold aheadOf at hj
     rw [Array.any_eq_true'] at hj
     obtain ⟨e, he, hb⟩ := hj
     simp only [Bool.and_eq_true, beq_iff_eq] at hb
     exact hb.2 ▸ haft e he hb.1
    refine wpOp_of_L (f := f') ho hfit (fun Q' hQ' => ?_)
    have hst := StepsI.get steps i o (by rw [← hops] at ho; simpa using ho) (fun j => listed.getD j false) f' s' (by rw [Nat.zero_add]; exact hun') hah
     (by rw [Nat.zero_add]; exact hwait) hE (by
     intro j d hj hd
     unfold dstOf at hd
     obtain ⟨o', h3, h4⟩ := Option.bind_eq_some_iff.1 hd
     exact hΦ j o' d (hah j hj) h3 h4) (by
     intro t ht
     rw [Nat.zero_add] at ht
     refine hfr t (fun j o' hj ho' hdt => ?_)
     unfold slotFree at ht
     rw [List.all_eq_true] at ht
     have := ht o' (by obtain ⟨h1, h2⟩ := Array.getElem?_eq_some_iff.1 ho'; rw [← h2]; simp)
     rw [hdt] at this
     simp only [bne_self_eq_false, Bool.false_or] at this
     rw [hwait j o' ho' this] at hj; cases hj) hI
    rw [Nat.zero_add] at hst
    refine hst Q' ?_
    intro v s'' hE' hLe hv hI'
    refine hQ' _ _ (fun a' ha' => ?_)
    have hgd : ∀ j, (listed.setIfInBounds i true).getD j false = true → j = i ∨ listed.getD j false = true := by
     intro j hj
     by_cases e : i = j
     ·exact .inl e.symm
     ·right; rw [getD_set_ne false e] at hj; exact hj
    have hseti : (listed.setIfInBounds i true).getD i false = true := by
     rw [Array.getD_eq_getD_getElem?, Array.getElem?_setIfInBounds]; simp [hil]
    refine ih _ a' _ s'' (by simpa using hsz) ?_ ha' hE' ?_ ?_ ?_ ?_
    ·have := countFalse_set hun; omega
    ·intro j o' d' hj ho' hd'
     rcases hgd j hj with rfl | hl
     ·rw [ho] at ho'; cases ho'
      rw [hd']
      simpa [updO, upd] using hv
     ·have hne : o.dst ≠ some d' := by
       intro e
       have := sp.uniq j i o' o d' ho' ho hd' e
       subst this; rw [hun'] at hl; cases hl
      have : updO f' o.dst v d' = f' d' := by
       cases hd : o.dst with
       | none => rfl
       | some d => simp only [updO, upd]; rw [if_neg]; intro e; exact hne (by rw [hd, e])
      rw [this]
      exact (pls.getD j PL.any).m _ _ _ (hΦ j o' d' hl ho' hd') hLe
    ·intro j o' hj ho' e he hb
     rcases hgd j hj with rfl | hj
     ·rw [ho] at ho'; cases ho'
      exact getD_set_true (haft e (by simpa using he) hb)
     ·exact getD_set_true (hcl j o' hj ho' e he hb)
    ·intro t ht
     cases hd : o.dst with
     | none => exact hfr t (fun j o' hj => ht j o' (getD_set_true hj))
     | some d =>
      have hne : t ≠ d := fun e => ht i o hseti ho (by rw [hd, e])
      show updO f' (some d) v t = f t
      simp only [updO, upd, if_neg hne]
      exact hfr t (fun j o' hj => ht j o' (getD_set_true hj))
    ·have : (fun j => (listed.setIfInBounds i true).getD j false) = setL (fun j => listed.getD j false) i := by
      funext j
      unfold setL
      by_cases e : j = i
      ·subst e; rw [hseti]; simp
      ·rw [getD_set_ne false (fun h => e h.symm)]; simp [e]
     rw [this]; exact hI'
 have hnone : ∀ j, (Array.replicate ops.size false).getD j false = true → False := by
  intro j hj
  rw [Array.getD_eq_getD_getElem?, Array.getElem?_replicate] at hj
  split at hj <;> simp at hj
 refine main ops.size (Array.replicate ops.size false) a f s.drew (by simp) (by simp [List.countP_replicate]) ha (Ext.drew s) (fun j o' d hj => (hnone j hj).elim) (fun j o' hj => (hnone j hj).elim) (fun _ _ => rfl) ?_
 have : (fun j => (Array.replicate ops.size false).getD j false) = (fun _ : Nat => false) := by
  funext j
  cases h : (Array.replicate ops.size false).getD j false with
  | false => rfl
  | true => exact (hnone j h).elim
 rw [this]; exact hI0 _
end
end Go.Arm
namespace Go.Arm
open Go Go.RowKit
theorem mget_skip {β : Type} {m : List (Int × β)} {k K : Int} {x : β} {r : Option β} (h : decide (k = K) = false) (hr : mget m k = r) : mget ((K, x) :: m) k = r := by
 have hne : K ≠ k := fun e => (of_decide_eq_false h) e.symm
 unfold mget at hr ⊢
 rw [List.find?_cons_of_neg (by simpa using hne)]; exact hr
theorem mget_hit {β : Type} {m : List (Int × β)} {k K : Int} {x : β} (h : decide (k = K) = true) : mget ((K, x) :: m) k = some x := by
 have he : k = K := of_decide_eq_true h
 subst he; simp [mget]
theorem mget_nil {β : Type} {k : Int} : mget ([] : List (Int × β)) k = none := rfl
theorem all_of {β : Type} {ins : List (Nat × β)} {p : Nat → Prop} {q : Nat → Bool} (h : ∀ j, q j = true → p j) (idx : List Nat) (hi : ins.map (·.1) = idx) (ha : idx.all q = true) : ∀ e, e ∈ ins → p e.1 := by
 intro e he
 rw [List.all_eq_true] at ha
 exact h _ (ha _ (by rw [← hi]; exact List.mem_map_of_mem he))
def waitsFor (ops : Array Oper) (i j : Nat) : Bool := match ops[j]? with | some o => aheadOf o i | none => false
theorem wait_of {ops : Array Oper} {l : Nat → Bool} {i : Nat} (h : ∀ j o', ops[j]? = some o' → aheadOf o' i = true → l j = false) : ∀ j, waitsFor ops i j = true → l j = false := by
 intro j hj
 unfold waitsFor at hj
 cases ho : ops[j]? with
 | none => rw [ho] at hj; cases hj
 | some o => rw [ho] at hj; exact h j o ho hj
end Go.Arm
