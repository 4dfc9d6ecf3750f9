/- A part of the proof. -/
import Derived.Test.YtdaedcoolcicoaaCoreU
import Derived.Test.YtdaedcoolcicoaaCoreI
import Derived.Laws.Pointers
import Derived.Test.YtdaedcoolcicoaaPrf
import Derived.Shelf.Sort.Plain
import Derived.Shelf.Slices.In.SortNone
namespace Go.Arm
open Go Go.RowKit

/-- A pointer to a datum that nobody writes, or nil. -/
structure NRef (α : Type) where
  x : Option α
instance {α : Type} [Rep α] : Rep (NRef α) where
  size := 1
  agg := false
  rel s cs r := ∃ v, cs = [v] ∧ ((r.x = none ∧ v = .pointer none) ∨ ∃ a, r.x = some a ∧ Ptr s v a)
  len := by rintro s cs r ⟨v, rfl, _⟩; rfl
  mono := by
    rintro s s' cs r l ⟨v, e, h | ⟨a, h1, h2⟩⟩
    · exact ⟨v, e, .inl h⟩
    · exact ⟨v, e, .inr ⟨a, h1, h2.mono l⟩⟩
  one := by
    rintro s cs r ⟨v, rfl, h⟩ u hu
    simp at hu; subst hu
    rcases h with ⟨_, rfl⟩ | ⟨a, _, ⟨b, o, cs, rfl, _⟩⟩ <;> rfl
  single _ := rfl
section
variable {α : Type} [Rep α] {s : St} {v : Value}
theorem Vnref : V s (.pointer none) (⟨none⟩ : NRef α) := ⟨[_], ⟨_, rfl, .inl ⟨rfl, rfl⟩⟩, rfl⟩
theorem Ptr.toN {a : α} (h : Ptr s v a) : V s v (⟨some a⟩ : NRef α) := ⟨[v], ⟨v, rfl, .inr ⟨a, rfl, h⟩⟩, rfl⟩
theorem V.nref {r : NRef α} (h : V s v r) : (r.x = none ∧ v = .pointer none) ∨ ∃ a, r.x = some a ∧ Ptr s v a := by
  obtain ⟨cs, ⟨u, rfl, h⟩, rfl⟩ := h
  exact h
theorem V.nrefAt {r : NRef α} (h : V s v r) : ∃ o : Option Addr, v = .pointer o ∧ o.isNone = r.x.isNone := by
  rcases h.nref with ⟨e, rfl⟩ | ⟨a, e, ⟨b, o, cs, rfl, _⟩⟩
  · exact ⟨none, rfl, by rw [e]; rfl⟩
  · exact ⟨_, rfl, by rw [e]; rfl⟩
end
section
variable {P : Program} {n : Nat} {Q : Post} {f : Fr} {w : World} {ops : Array Oper} {rest : List Oper} {d : Nat} {ty : TypeId} {pos : String} {aft : Array Edge} {T T' : TypeId} {x : Operand} {p : Option Addr} {b : Bool}
theorem L_eqlNil (hT : P.underlying T = some (.pointer (P.pointee T))) (hx : ev f x = .pointer p) (hb : p.isNone = b) (hd : d < n) (h : L P n ops Q rest (upd f d (.bool b)) w) :
    L P n ops Q (⟨some d, .binOp .eql T x (.const (.pointer none)) T', ty, pos, aft, none⟩ :: rest) f w :=
  L_val (v := .bool b) rfl (fun k e => by cases e; exact hd) (by
    have h1 := run_eql_pointer_nil (P := P) w T p hT
    rw [hb] at h1
    simp [execOp, hx, eqGuard, show ev f (.const (.pointer none)) = .pointer none from rfl, h1]) h
theorem L_neqNilP (hT : P.underlying T = some (.pointer (P.pointee T))) (hx : ev f x = .pointer p) (hb : p.isNone = b) (hd : d < n) (h : L P n ops Q rest (upd f d (.bool (!b))) w) :
    L P n ops Q (⟨some d, .binOp .neq T x (.const (.pointer none)) T', ty, pos, aft, none⟩ :: rest) f w :=
  L_val (v := .bool (!b)) rfl (fun k e => by cases e; exact hd) (by
    have h1 := run_neq_pointer_nil (P := P) w T p hT
    rw [hb] at h1
    simp [execOp, hx, eqGuard, show ev f (.const (.pointer none)) = .pointer none from rfl, h1]) h
end

/-! A map from numbers to objects of one's own: a number, the object's block, what it holds. -/
section
variable {γ : Type} [Rep γ]
def toM (e : Int × (Nat × γ)) : Int × RawV := (e.1, ⟨.pointer (some ⟨e.2.1, 0, none⟩)⟩)
def toP (e : Int × (Nat × γ)) : Int × γ := (e.1, e.2.2)
structure Objs (s : St) (B bm : Nat) (E : TypeId) (os : List (Int × (Nat × γ))) : Prop where
  map : MapX s bm (os.map toM)
  obj : ∀ e, e ∈ os → B ≤ e.2.1 ∧ e.2.1 ≠ bm ∧ Var s e.2.1 E e.2.2
  dist : (os.map fun e => e.2.1).Nodup
def ofoot (bm : Nat) (os : List (Int × (Nat × γ))) (k : Nat) : Prop := k = bm ∨ ∃ e, e ∈ os ∧ e.2.1 = k
variable {s s' : St} {B bm : Nat} {E : TypeId} {os : List (Int × (Nat × γ))} {M : Nat → Prop}
theorem Objs.tch (h : Objs s B bm E os) (t : Tch M s s') (hM : ∀ k, ofoot bm os k → ¬ M k) : Objs s' B bm E os :=
  ⟨h.map.tch t (hM _ (.inl rfl)), fun e he => ⟨(h.obj e he).1, (h.obj e he).2.1, (h.obj e he).2.2.tch t (hM _ (.inr ⟨e, he, rfl⟩))⟩, h.dist⟩
theorem Objs.ext (h : Objs s B bm E os) (t : Ext s s') : Objs s' B bm E os := h.tch t (fun _ _ x => x)
theorem Objs.lt (h : Objs s B bm E os) {k : Nat} (hk : ofoot bm os k) : k < s.w.heap.size := by
  rcases hk with rfl | ⟨e, he, rfl⟩
  · exact h.map.lt
  · exact (h.obj e he).2.2.lt
theorem Objs.g (h : Objs s B bm E os) {k : Nat} (hk : ofoot bm os k) : s.g k = 0 := by
  rcases hk with rfl | ⟨e, he, rfl⟩
  · exact h.map.g
  · exact (h.obj e he).2.2.g
omit [Rep γ] in
theorem mget_map {β δ : Type} (g : β → δ) (l : List (Int × β)) (k : Int) : mget (l.map fun e => (e.1, g e.2)) k = (mget l k).map g := by
  unfold mget
  rw [List.find?_map]
  cases h : l.find? ((fun e => e.1 == k) ∘ fun e => (e.1, g e.2)) with
  | none =>
    have h' : l.find? (fun e => e.1 == k) = none := h
    rw [h']; rfl
  | some x =>
    have h' : l.find? (fun e => e.1 == k) = some x := h
    rw [h']; rfl
omit [Rep γ] in
theorem mset_map {β δ : Type} (g : β → δ) (l : List (Int × β)) (k : Int) (y : β) : mset (l.map fun e => (e.1, g e.2)) k (g y) = (mset l k y).map fun e => (e.1, g e.2) := by
  unfold mset
  rw [List.any_map]
  by_cases h : l.any (fun e => e.1 == k) = true
  · rw [if_pos h, if_pos (show l.any ((fun e => e.1 == k) ∘ fun e => (e.1, g e.2)) = true from h), List.map_map, List.map_map]
    refine List.map_congr_left fun e _ => ?_
    simp only [Function.comp]
    split <;> rfl
  · rw [if_neg h, if_neg (show ¬ l.any ((fun e => e.1 == k) ∘ fun e => (e.1, g e.2)) = true from h), List.map_append]
    rfl
omit [Rep γ] in
theorem mget_mem {β : Type} {l : List (Int × β)} {k : Int} {y : β} (h : mget l k = some y) : (k, y) ∈ l := by
  unfold mget at h
  obtain ⟨e, h1, rfl⟩ := Option.map_eq_some_iff.1 h
  have h2 := List.find?_some h1
  have h3 : e.1 = k := by simpa using h2
  have h4 := List.mem_of_find?_eq_some h1
  rw [← h3]; exact h4
omit [Rep γ] in
theorem mget_none {β : Type} {l : List (Int × β)} {k : Int} (h : mget l k = none) : l.any (fun e => e.1 == k) = false := by
  unfold mget at h
  have h1 : l.find? (fun e => e.1 == k) = none := by simpa using h
  rw [List.any_eq_false]
  intro x hx
  have := List.find?_eq_none.1 h1 x hx
  simpa using this
omit [Rep γ] in
theorem mget_any {β : Type} {l : List (Int × β)} {k : Int} {y : β} (h : mget l k = some y) : l.any (fun e => e.1 == k) = true := by
  rw [List.any_eq_true]
  exact ⟨_, mget_mem h, by simp⟩
/-- A new object. -/
theorem Objs.put {b : Nat} {k : Int} {y : γ} (h : Objs s B bm E os) (hk : mget os k = none) (hb : B ≤ b) (hn : ¬ ofoot bm os b) (hv : Var s b E y) (t : Tch (fun i => i = bm) s s')
    (hm : MapX s' bm (mset (os.map toM) k (⟨.pointer (some ⟨b, 0, none⟩)⟩ : RawV))) : Objs s' B bm E (os ++ [(k, (b, y))]) := by
  have hne : b ≠ bm := fun e => hn (.inl e)
  refine ⟨?_, fun e he => ?_, ?_⟩
  · have e1 := mset_map (fun z : Nat × γ => (⟨.pointer (some ⟨z.1, 0, none⟩)⟩ : RawV)) os k (b, y)
    have e2 : mset os k (b, y) = os ++ [(k, (b, y))] := by unfold mset; rw [if_neg (by rw [mget_none hk]; simp)]
    rw [e2] at e1
    exact e1 ▸ hm
  · rcases List.mem_append.1 he with he | he
    · exact ⟨(h.obj e he).1, (h.obj e he).2.1, (h.obj e he).2.2.tch t (h.obj e he).2.1⟩
    · obtain rfl := List.mem_singleton.1 he
      exact ⟨hb, hne, hv.tch t hne⟩
  · rw [List.map_append, List.nodup_append]
    refine ⟨h.dist, by simp, ?_⟩
    intro x hx z hz
    simp only [List.map_cons, List.map_nil, List.mem_singleton] at hz
    subst hz
    obtain ⟨e, he, rfl⟩ := List.mem_map.1 hx
    exact fun e2 => hn (.inr ⟨e, he, e2⟩)
omit [Rep γ] in
theorem nodup_inj {β δ : Type} {g : β → δ} : ∀ {l : List β}, (l.map g).Nodup → ∀ {x y : β}, x ∈ l → y ∈ l → g x = g y → x = y
  | [], _, _, _, h, _, _ => by cases h
  | a :: l, hn, x, y, hx, hy, e => by
    rw [List.map_cons, List.nodup_cons] at hn
    rcases List.mem_cons.1 hx with rfl | hx
    · rcases List.mem_cons.1 hy with rfl | hy
      · rfl
      · exact absurd (List.mem_map.2 ⟨y, hy, e.symm⟩) hn.1
    · rcases List.mem_cons.1 hy with e2 | hy
      · rw [e2] at e
        exact absurd (List.mem_map.2 ⟨x, hx, e⟩) hn.1
      · exact nodup_inj hn.2 hx hy e
omit [Rep γ] in
theorem mset_toM {os : List (Int × (Nat × γ))} {k : Int} {b : Nat} {y y' : γ} (hk : mget os k = some (b, y)) (hd : (os.map (·.1)).Nodup) : (mset os k (b, y')).map toM = os.map toM := by
  unfold mset
  rw [if_pos (mget_any hk), List.map_map]
  refine List.map_congr_left fun e he => ?_
  simp only [Function.comp]
  split
  · rename_i hek
    have hek' : e.1 = k := by simpa using hek
    have : e = (k, (b, y)) := nodup_inj (g := fun e : Int × (Nat × γ) => e.1) hd he (mget_mem hk) hek'
    rw [this]; rfl
  · rfl
/-- An object that is set. -/
theorem Objs.set {b : Nat} {k : Int} {y y' : γ} (h : Objs s B bm E os) (hk : mget os k = some (b, y)) (t : Tch (fun i => i = b) s s') (hv : Var s' b E y') : Objs s' B bm E (mset os k (b, y')) := by
  have hm := mget_mem hk
  have hb := h.obj _ hm
  have hkeys : (os.map (·.1)).Nodup := by
    obtain ⟨es, c, _, _, h3⟩ := h.map
    have := h3.keys
    rw [List.map_map] at this
    exact this
  have hbs : ∀ e, e ∈ os → e.2.1 = b → e = (k, (b, y)) := fun e he hek => nodup_inj (g := fun e : Int × (Nat × γ) => e.2.1) h.dist he hm hek
  refine ⟨?_, fun e he => ?_, ?_⟩
  · rw [mset_toM hk hkeys]
    exact h.map.tch t (fun e => hb.2.1 e.symm)
  · unfold mset at he
    rw [if_pos (mget_any hk)] at he
    obtain ⟨e0, he0, rfl⟩ := List.mem_map.1 he
    split
    · exact ⟨hb.1, hb.2.1, hv⟩
    · rename_i hne
      have h0 := h.obj e0 he0
      refine ⟨h0.1, h0.2.1, h0.2.2.tch t (fun e2 => hne ?_)⟩
      rw [hbs e0 he0 e2]; simp
  · have e1 : (mset os k (b, y')).map (fun e => e.2.1) = os.map (fun e => e.2.1) := by
      have := congrArg (List.map fun z : Int × RawV => match z.2.v with | .pointer (some a) => a.block | _ => 0) (mset_toM (y' := y') hk hkeys)
      rw [List.map_map, List.map_map] at this
      exact this
    rw [e1]; exact h.dist
omit [Rep γ] in
theorem ofoot_put {b k' : Nat} {k : Int} {y : γ} (h : ofoot bm (os ++ [(k, (b, y))]) k') : ofoot bm os k' ∨ k' = b := by
  rcases h with rfl | ⟨e, he, rfl⟩
  · exact .inl (.inl rfl)
  · rcases List.mem_append.1 he with he | he
    · exact .inl (.inr ⟨e, he, rfl⟩)
    · obtain rfl := List.mem_singleton.1 he
      exact .inr rfl
omit [Rep γ] in
theorem ofoot_set {b k' : Nat} {k : Int} {y y' : γ} (hk : mget os k = some (b, y)) (h : ofoot bm (mset os k (b, y')) k') : ofoot bm os k' := by
  rcases h with rfl | ⟨e, he, rfl⟩
  · exact .inl rfl
  · unfold mset at he
    rw [if_pos (mget_any hk)] at he
    obtain ⟨e0, he0, rfl⟩ := List.mem_map.1 he
    split
    · exact .inr ⟨_, mget_mem hk, rfl⟩
    · exact .inr ⟨e0, he0, rfl⟩
/-- The map and its objects are given up: nobody writes them any more. -/
theorem Objs.freeze (h : Objs s B bm E os) : ∃ s1, s1.w = s.w ∧ Tch (ofoot bm os) s s1 ∧ MapV s1 (.map (some bm)) (os.map fun e => (e.1, (⟨e.2.2⟩ : Ref γ))) := by
  let F : Nat → Prop := fun k => ∃ e, e ∈ os ∧ e.2.1 = k
  have hF : ∀ b, F b → b < s.w.heap.size := fun b hb => h.lt (.inr hb)
  have hz : ∀ b, F b → s.g b = 0 := fun b hb => h.g (.inr hb)
  have t1 := claimF_tch hF hz
  have hbm : ¬ F bm := fun ⟨e, he, hk⟩ => (h.obj e he).2.1 hk
  have m1 : MapX (s.claimF F hF) bm (os.map toM) := h.map.tch t1 hbm
  obtain ⟨s2, e2, t2, m2⟩ := m1.freeze
  refine ⟨s2, e2.trans rfl, (t1.mono fun k hk => .inr hk).trans (t2.mono fun k hk => .inl hk) (fun k hk => .inl hk), ?_⟩
  rcases m2 with ⟨e, _⟩ | ⟨b, es, c, e, g1, g2, g3⟩
  · cases e
  · cases e
    refine .inr ⟨bm, es, c, rfl, g1, g2, ?_, fun i hi hi' => ?_, g3.born, g3.dist, ?_⟩
    · rw [g3.len, List.length_map, List.length_map]
    · rw [List.length_map] at hi
      obtain ⟨k1, k2⟩ := g3.ent i (by rw [List.length_map]; exact hi) hi'
      rw [List.getElem_map] at k1 k2
      rw [List.getElem_map]
      refine ⟨k1, ?_⟩
      have k3 := k2.raw
      have ho := h.obj os[i] (List.getElem_mem hi)
      obtain ⟨cs, hm, hrel⟩ := ho.2.2
      refine Ptr.toV ⟨os[i].2.1, 0, cs, k3, Rep.mono (t1.le.trans t2.le) hrel, fun j hj => ⟨?_, Nat.lt_of_lt_of_le ?_ (t2.le.g _)⟩⟩
      · have := hm.cell (o := 0 + j)
        rw [show s2.w = s.w from e2.trans rfl, this, Nat.zero_add, List.getElem?_eq_getElem hj]
      · rw [claimF_g hF ⟨os[i], List.getElem_mem hi, rfl⟩]
        unfold fullOf
        rw [hm.heap]
        simp; exact hj
    · have := g3.keys
      rw [List.map_map] at this ⊢
      exact this
end
end Go.Arm
namespace Go.Arm
open Go Go.RowKit Go.Proofs

structure Spot where
  proc : Int
  saved : Int

instance : Rep Spot where
  size := 2
  agg := true
  rel s cs x := ∃ c0 c1, cs = c0 ++ (c1) ∧ Rep.rel s c0 x.proc ∧ Rep.rel s c1 x.saved
  len := by
    rintro s cs x ⟨c0, c1, rfl, h0, h1⟩
    simp only [List.length_append, Rep.len h0, Rep.len h1]; rfl
  mono := by
    rintro s t cs x l ⟨c0, c1, e, h0, h1⟩
    exact ⟨c0, c1, e, Rep.mono l h0, Rep.mono l h1⟩
  one := by
    rintro s cs x ⟨c0, c1, rfl, h0, h1⟩ v hv
    simp only [List.mem_append] at hv
    rcases hv with hv | hv
    · exact Rep.one h0 v hv
    · exact Rep.one h1 v hv
  single h := by cases h

theorem Spot.of_proc : FieldOf (fun x : Spot => x.proc) 0 := by
  rintro s cs x ⟨c0, c1, rfl, h0, h1⟩
  refine ⟨c0, h0, fun j hj => ?_⟩
  rw [Nat.zero_add]
  exact get_here hj
def Spot.with_proc (x : Spot) (y : Int) : Spot := ⟨y, x.saved⟩
theorem Spot.of_saved : FieldOf (fun x : Spot => x.saved) 1 := by
  rintro s cs x ⟨c0, c1, rfl, h0, h1⟩
  refine ⟨c1, h1, fun j hj => ?_⟩
  rw [show 1 + j = 1 + j by omega, get_skip (show c0.length = 1 from Rep.len h0)]
  exact List.getElem?_eq_getElem hj
def Spot.with_saved (x : Spot) (y : Int) : Spot := ⟨x.proc, y⟩
theorem Spot.mk_V {s : St} {v0 v1 : Value} {x : Spot} (h0 : V s v0 x.proc) (h1 : V s v1 x.saved) : V s (.agg #[v0, v1]) x :=
  ⟨_, ⟨[v0], [v1], rfl, h0.one rfl, h1.one rfl⟩, rfl⟩
structure Psg where
  sent : NRef Spot
  recv : NRef Spot

instance : Rep Psg where
  size := 2
  agg := true
  rel s cs x := ∃ c0 c1, cs = c0 ++ (c1) ∧ Rep.rel s c0 x.sent ∧ Rep.rel s c1 x.recv
  len := by
    rintro s cs x ⟨c0, c1, rfl, h0, h1⟩
    simp only [List.length_append, Rep.len h0, Rep.len h1]; rfl
  mono := by
    rintro s t cs x l ⟨c0, c1, e, h0, h1⟩
    exact ⟨c0, c1, e, Rep.mono l h0, Rep.mono l h1⟩
  one := by
    rintro s cs x ⟨c0, c1, rfl, h0, h1⟩ v hv
    simp only [List.mem_append] at hv
    rcases hv with hv | hv
    · exact Rep.one h0 v hv
    · exact Rep.one h1 v hv
  single h := by cases h

theorem Psg.of_sent : FieldOf (fun x : Psg => x.sent) 0 := by
  rintro s cs x ⟨c0, c1, rfl, h0, h1⟩
  refine ⟨c0, h0, fun j hj => ?_⟩
  rw [Nat.zero_add]
  exact get_here hj
def Psg.with_sent (x : Psg) (y : NRef Spot) : Psg := ⟨y, x.recv⟩
theorem Psg.set_sent : FieldSet Psg.with_sent 0 := by
  rintro s cs ks x y ⟨c0, c1, rfl, h0, h1⟩ hk
  have l0 : c0.length = 1 := Rep.len h0
  have l1 : c1.length = 1 := Rep.len h1
  have lk : ks.length = 1 := Rep.len hk
  refine ⟨⟨ks, c1, ?_, hk, h1⟩, ?_⟩
  · refine splice_fields (a := []) (b := c0) (c := [c1]) ?_ (by omega) ?_ ?_
    · rfl
    · simp
    · simp
  · simp <;> omega
theorem Psg.of_recv : FieldOf (fun x : Psg => x.recv) 1 := by
  rintro s cs x ⟨c0, c1, rfl, h0, h1⟩
  refine ⟨c1, h1, fun j hj => ?_⟩
  rw [show 1 + j = 1 + j by omega, get_skip (show c0.length = 1 from Rep.len h0)]
  exact List.getElem?_eq_getElem hj
def Psg.with_recv (x : Psg) (y : NRef Spot) : Psg := ⟨x.sent, y⟩
theorem Psg.set_recv : FieldSet Psg.with_recv 1 := by
  rintro s cs ks x y ⟨c0, c1, rfl, h0, h1⟩ hk
  have l0 : c0.length = 1 := Rep.len h0
  have l1 : c1.length = 1 := Rep.len h1
  have lk : ks.length = 1 := Rep.len hk
  refine ⟨⟨c0, ks, ?_, h0, hk⟩, ?_⟩
  · refine splice_fields (a := [c0]) (b := c1) (c := []) ?_ (by omega) ?_ ?_
    · simp <;> omega
    · simp
    · simp
  · simp <;> omega
theorem Psg.mk_V {s : St} {v0 v1 : Value} {x : Psg} (h0 : V s v0 x.sent) (h1 : V s v1 x.recv) : V s (.agg #[v0, v1]) x :=
  ⟨_, ⟨[v0], [v1], rfl, h0.one rfl, h1.one rfl⟩, rfl⟩
theorem ty112 : Ty Try.prog 112 (NRef Spot) := ⟨by kernel_rfl, by kernel_rfl⟩
theorem fld114_0 : fieldAt Try.prog 114 0 = some (0, 112, 0 + 1) := by kernel_rfl
theorem fld114_1 : fieldAt Try.prog 114 1 = some (1, 112, 0 + 1) := by kernel_rfl
theorem fld117_0 : fieldAt Try.prog 117 0 = some (0, 3, 0 + 1) := by kernel_rfl
theorem fld117_1 : fieldAt Try.prog 117 1 = some (1, 3, 0 + 1) := by kernel_rfl
theorem fldI0 : fieldAt Try.prog 55 0 = some (0, 3, 0 + 1) := by kernel_rfl
theorem fldI1 : fieldAt Try.prog 55 1 = some (1, 3, 0 + 1) := by kernel_rfl
theorem und107 : Try.prog.underlying 107 = some (.map 3 111) := by kernel_rfl
theorem undp111 : Try.prog.underlying 111 = some (.pointer (Try.prog.pointee 111)) := by kernel_rfl
theorem undp112 : Try.prog.underlying 112 = some (.pointer (Try.prog.pointee 112)) := by kernel_rfl
theorem zero111 : (Try.prog.info? 111).map (·.zero) = some (some (.pointer none)) := by kernel_rfl
section
variable {n : Nat} {Q : Post} {f : Fr} {w : World} {ops : Array Oper} {rest : List Oper} {d : Nat} {ty : TypeId} {pos : String} {aft : Array Edge} {s : St}
theorem L_bld117_0_1 {x0 : Operand} {v0 : Value} {a0 : Int} {x1 : Operand} {v1 : Value} {a1 : Int} (h0 : ev f x0 = v0) (h1 : ev f x1 = v1) (k0 : V s v0 a0) (k1 : V s v1 a1) (hd : d < n)
    (h : ∀ v, V s v (⟨a0, a1⟩ : Spot) → L Try.prog n ops Q rest (upd f d v) w) : L Try.prog n ops Q (⟨some d, .build 117 #[(0, x0), (1, x1)], ty, pos, aft, none⟩ :: rest) f w := by
  obtain rfl := k0.int
  obtain rfl := k1.int
  have hr : (Instr.build 117 #[(0, .int .i64 a0), (1, .int .i64 a1)]).run Try.prog w = .ok (.agg #[.int .i64 a0, .int .i64 a1]) w := by kernel_rfl
  refine L_val rfl (fun k e => by cases e; exact hd) (w' := w) ?_ (h _ (Spot.mk_V k0 k1))
  simp only [execOp, List.map_toArray, List.map_cons, List.map_nil, h0, h1, Sem.run_bind, hr, Result.andThen_ok, Sem.run_pure]
theorem L_bld114 (hd : d < n)
    (h : ∀ v, V s v (⟨⟨none⟩, ⟨none⟩⟩ : Psg) → L Try.prog n ops Q rest (upd f d v) w) : L Try.prog n ops Q (⟨some d, .build 114 #[], ty, pos, aft, none⟩ :: rest) f w := by
  have hr : (Instr.build 114 #[]).run Try.prog w = .ok (.agg #[.pointer none, .pointer none]) w := by kernel_rfl
  refine L_val rfl (fun k e => by cases e; exact hd) (w' := w) ?_ (h _ (Psg.mk_V Vnref Vnref))
  simp only [execOp, List.map_toArray, List.map_nil, Sem.run_bind, hr, Result.andThen_ok, Sem.run_pure]
end

theorem extW {s0 s s' : St} {M : Nat → Prop} (h : Ext s0 s) (t : Tch M s s') (hM : ∀ k, M k → s0.w.heap.size ≤ k) : Ext s0 s' := Tch.trans h t (fun k hk => .inr (hM k hk))

/-- The messages so far, and how many states each process saved. -/
structure PJ (s0 s : St) (bm ba len : Nat) (os : List (Int × (Nat × Psg))) (sv : List Int) : Prop where
  ext : Ext s0 s
  obj : Objs s s0.w.heap.size bm 114 os
  arr : Arr s ba 3 len sv
  bm0 : s0.w.heap.size ≤ bm
  ba0 : s0.w.heap.size ≤ ba
  na : ¬ ofoot bm os ba
section
variable {s0 s s' : St} {bm ba len : Nat} {os : List (Int × (Nat × Psg))} {sv sv' : List Int}
theorem PJ.more (h : PJ s0 s bm ba len os sv) (e : Ext s s') : PJ s0 s' bm ba len os sv := ⟨h.ext.trans e, h.obj.ext e, h.arr.ext e, h.bm0, h.ba0, h.na⟩
theorem PJ.low (h : PJ s0 s bm ba len os sv) {k : Nat} (hk : ofoot bm os k) : s0.w.heap.size ≤ k := by
  rcases hk with rfl | ⟨e, he, rfl⟩
  · exact h.bm0
  · exact (h.obj.obj e he).1
theorem PJ.setA (h : PJ s0 s bm ba len os sv) (t : Tch (fun k => k = ba) s s') (a : Arr s' ba 3 len sv') : PJ s0 s' bm ba len os sv' :=
  ⟨extW h.ext t (fun _ hk => hk ▸ h.ba0), h.obj.tch t (fun _ hk e => h.na (e ▸ hk)), a, h.bm0, h.ba0, h.na⟩
theorem PJ.put {b : Nat} {k : Int} {y : Psg} (h : PJ s0 s bm ba len os sv) (hk : mget os k = none) (hb : s0.w.heap.size ≤ b) (hn : ¬ ofoot bm os b) (hba : b ≠ ba) (hv : Var s b 114 y) (t : Tch (fun i => i = bm) s s')
    (hm : MapX s' bm (mset (os.map toM) k (⟨.pointer (some ⟨b, 0, none⟩)⟩ : RawV))) : PJ s0 s' bm ba len (os ++ [(k, (b, y))]) sv :=
  ⟨extW h.ext t (fun _ hi => hi ▸ h.bm0), h.obj.put hk hb hn hv t hm, h.arr.tch t (fun e => h.na (.inl e)), h.bm0, h.ba0, fun x => by
    rcases ofoot_put x with x | x
    · exact h.na x
    · exact hba x.symm⟩
theorem PJ.set {b : Nat} {k : Int} {y y' : Psg} (h : PJ s0 s bm ba len os sv) (hk : mget os k = some (b, y)) (t : Tch (fun i => i = b) s s') (hv : Var s' b 114 y') : PJ s0 s' bm ba len (mset os k (b, y')) sv :=
  have hf : ofoot bm os b := .inr ⟨_, mget_mem hk, rfl⟩
  ⟨extW h.ext t (fun _ hi => hi ▸ h.low hf), h.obj.set hk t hv, h.arr.tch t (fun e => h.na (e ▸ hf)), h.bm0, h.ba0, fun x => h.na (ofoot_set hk x)⟩
theorem PJ.at_ {b : Nat} {k : Int} {y : Psg} (h : PJ s0 s bm ba len os sv) (hk : mget os k = some (b, y)) : Var s b 114 y := (h.obj.obj _ (mget_mem hk)).2.2
end

/-! What passages computes. -/
def psgItem (p : Int) (x : Item) (ps : List (Int × Psg)) (sv : List Int) : Option (Option (List (Int × Psg) × List Int)) :=
  if (decide (x.Kind = 1) && decide (x.No = 0)) then
  (Option.bind (idx sv p) fun c => chk (inR (c + 1)) <| some (some (ps, sv.set p.toNat (c + 1))))
  else
  (if ((!decide (x.Kind = 2)) && (!decide (x.Kind = 3))) || decide (x.No < 0) then
  (some none)
  else
  (match (mget ps x.No).getD ⟨⟨none⟩, ⟨none⟩⟩ with
  | e =>
  (if (if decide (x.Kind = 3) then e.recv.x.isSome else e.sent.x.isSome) then
  (some none)
  else
  (Option.bind (idx sv p) fun c =>
  some (some (mset ps x.No (if decide (x.Kind = 3) then ⟨e.sent, ⟨some ⟨p, c⟩⟩⟩ else ⟨⟨some ⟨p, c⟩⟩, e.recv⟩), sv))))))
def psgI (p : Int) (l : List Item) : Nat → Int → List (Int × Psg) → List Int → Option (Option (List (Int × Psg) × List Int))
  | 0, _, _, _ => none
  | m + 1, i, ps, sv =>
  if decide (i < (l.length : Int)) then
  (Option.bind (idx l i) fun x =>
  Option.bind (psgItem p x ps sv) fun o => match o with
  | none => some none
  | some q => chk (inR (i + 1)) <| psgI p l m (i + 1) q.1 q.2)
  else
  (some (some (ps, sv)))
def psgP (N : Nat) (h : List (List Item)) : Nat → Int → List (Int × Psg) → List Int → Option (Option (List (Int × Psg) × List Int))
  | 0, _, _, _ => none
  | m + 1, p, ps, sv =>
  if decide (p < (h.length : Int)) then
  (Option.bind (idx h p) fun l =>
  Option.bind (psgI p l N 0 ps sv) fun o => match o with
  | none => some none
  | some q => chk (inR (p + 1)) <| psgP N h m (p + 1) q.1 q.2)
  else
  (some (some (ps, sv)))
/-- A message that was received, and not sent, or by its sender. -/
def badP (m : Psg) : Bool := match m.recv.x with
  | none => false
  | some r => match m.sent.x with
    | none => true
    | some t => decide (t.proc = r.proc)
def check_passages (N : Nat) (h : List (List Item)) : Option (List (Int × Psg) × List Int × Int) :=
  Option.bind (if decide ((h.length : Int) < 1) then
  (some (true))
  else
  (some (decide (64 < (h.length : Int))))) fun o1 =>
  if o1 then
  (some ([], [], 3))
  else
  (Option.bind (slices_ContainsFunc_LLcheck_Item_Lcheck_Item N h (check_passages_1 N)) fun y1 =>
  if y1 then
  (some ([], [], 9))
  else
  (Option.bind (psgP N h N 0 [] (List.replicate h.length 0)) fun o => match o with
  | none => some ([], [], 2)
  | some q => if q.1.any (fun e => badP e.2) then (some ([], [], 2)) else (some (q.1, q.2, 0))))

theorem mset_snoc {β : Type} {l : List (Int × β)} {k : Int} {y y' : β} (h : mget l k = none) : mset (l ++ [(k, y)]) k y' = l ++ [(k, y')] := by
  unfold mset
  rw [if_pos (by simp), List.map_append]
  congr 1
  · conv => rhs; rw [← List.map_id l]
    refine List.map_congr_left fun e he => ?_
    have := List.any_eq_false.1 (mget_none h) e he
    rw [if_neg (by simpa using this)]; rfl
  · simp
theorem mget_snoc {β : Type} {l : List (Int × β)} {k : Int} {y : β} (h : mget l k = none) : mget (l ++ [(k, y)]) k = some y := by
  unfold mget at h ⊢
  have h' : l.find? (fun e => e.1 == k) = none := by simpa using h
  rw [List.find?_append, h']
  simp
theorem mget_toP {os : List (Int × (Nat × Psg))} {k : Int} : mget (os.map toP) k = (mget os k).map (·.2) := mget_map (fun z : Nat × Psg => z.2) os k
theorem mget_toM {os : List (Int × (Nat × Psg))} {k : Int} : mget (os.map toM) k = (mget os k).map fun z => (⟨.pointer (some ⟨z.1, 0, none⟩)⟩ : RawV) := mget_map (fun z : Nat × Psg => (⟨.pointer (some ⟨z.1, 0, none⟩)⟩ : RawV)) os k
theorem mset_toP {os : List (Int × (Nat × Psg))} {k : Int} {b : Nat} {y : Psg} : mset (os.map toP) k y = (mset os k (b, y)).map toP := mset_map (fun z : Nat × Psg => z.2) os k (b, y)

theorem zeroI : (Try.prog.info? 55).map (·.zero) = some (some (.agg #[.int .i64 0, .int .i64 0])) := by kernel_rfl
theorem callC : Callee Try.prog 82 := ⟨_, Try.func82, by kernel_rfl, by kernel_rfl⟩
theorem callD : Callee Try.prog 83 := ⟨_, Try.func83, by kernel_rfl, by kernel_rfl⟩
theorem Vmap0 {s : St} {β : Type} [Rep β] : V s (.map none) (⟨[]⟩ : GMap β) := MapV.toV (.inl ⟨rfl, rfl⟩)
/-- What passages returns. -/
def PsgR (r : List (Int × Psg) × List Int × Int) (v : Value) (s : St) : Prop := ∃ a b c, v = .tuple #[a, b, c] ∧ V s a (⟨r.1.map fun e => (e.1, (⟨e.2⟩ : Ref Psg))⟩ : GMap (Ref Psg)) ∧ V s b r.2.1 ∧ V s c r.2.2
theorem psgR_err {e : Int} {s : St} : PsgR ([], [], e) (.tuple #[.map none, .slice none 0 0, .int .i64 e]) s := ⟨_, _, _, rfl, Vmap0, Vnil, Vint⟩
/-- What the frame holds while an item is looked at. -/
structure PF (f : Fr) (bm ba len ll : Nat) (p i : Int) (w0 v1 : Value) (bx : Nat) : Prop where
  g5 : f 5 = Value.map (some bm)
  g6 : f 6 = Value.slice (some ⟨ba, 0, none⟩) len len
  g7 : f 7 = Value.int .i64 p
  g30 : f 30 = w0
  g31 : f 31 = Value.int .i64 (len : Int)
  g32 : f 32 = Value.int .i64 p
  g37 : f 37 = v1
  g38 : f 38 = Value.int .i64 (ll : Int)
  g39 : f 39 = Value.int .i64 i
  g10 : f 10 = Value.pointer (some ⟨bx, 0, none⟩)
theorem PF.up {f f' : Fr} {bm ba len ll : Nat} {p i : Int} {w0 v1 : Value} {bx : Nat} (h : PF f bm ba len ll p i w0 v1 bx) (h5 : f' 5 = f 5 := by rfl) (h6 : f' 6 = f 6 := by rfl) (h7 : f' 7 = f 7 := by rfl) (h30 : f' 30 = f 30 := by rfl) (h31 : f' 31 = f 31 := by rfl) (h32 : f' 32 = f 32 := by rfl) (h37 : f' 37 = f 37 := by rfl) (h38 : f' 38 = f 38 := by rfl) (h39 : f' 39 = f 39 := by rfl) (h10 : f' 10 = f 10 := by rfl) : PF f' bm ba len ll p i w0 v1 bx :=
  ⟨h5.trans h.g5, h6.trans h.g6, h7.trans h.g7, h30.trans h.g30, h31.trans h.g31, h32.trans h.g32, h37.trans h.g37, h38.trans h.g38, h39.trans h.g39, h10.trans h.g10⟩
theorem check_passages_ok (N : Nat) (s0 : St) (w0 : Value) (a0 : List (List Item)) (h0 : V s0 w0 a0) (r : List (Int × Psg) × List Int × Int) (hr : check_passages N a0 = some r) :
    Calls Try.prog 52 #[w0] s0.w (Ret s0 (PsgR r)) := by
  unfold check_passages at hr
  have hE0 := Ext.refl s0
  refine Calls_of (n := 147) (args := [w0]) Try.func52 rfl rfl (by simp) ?_
  refine W_seq ?_
  refine W_region ?_
  refine L_assign (rfl : _ = Value.map none) (by decide) ?_
  refine L_assign (rfl : _ = Value.slice none 0 0) (by decide) ?_
  refine L_assign (rfl : _ = Value.int .i64 0) (by decide) ?_
  refine L_nil ?_
  refine then_n ?_
  obtain ⟨o1, ho1, hr⟩ := bind_some hr
  refine W_seq_cut (fun f w => ∃ s : St, s.w = w ∧ Ext s0 s ∧ f 0 = w0 ∧ ((a0.length : Int) ≤ 64) ∧ Option.bind (psgP N a0 N 0 [] (List.replicate a0.length 0)) (fun o => match o with
    | none => some ([], [], (2 : Int))
    | some q => if q.1.any (fun e => badP e.2) then (some ([], [], (2 : Int))) else (some (q.1, q.2, (0 : Int)))) = some r) ?_ ?_
  · refine W_block ?_
    refine W_seq ?_
    refine W_region ?_
    refine L_move (rfl : _ = w0) (by decide) ?_
    refine L_len Try.underlying49 (rfl : _ = w0) h0 (by decide) ?_
    refine L_lss (rfl : _ = Value.int .i64 ((a0.length : Int))) (rfl : _ = Value.int .i64 (1)) (by decide) ?_
    refine L_move (rfl : _ = Value.bool (decide ((a0.length : Int) < 1))) (by decide) ?_
    rcases Bool.eq_false_or_eq_true (decide ((a0.length : Int) < 1)) with hb | hb
    · have ho1 := ite_t hb ho1
      obtain rfl := Option.some.inj ho1
      refine L_gf (e := 18) (by rfl) (by decide) (rfl : _ = Value.bool (decide ((a0.length : Int) < 1))) hb (by decide) ?_
      refine L_gf (e := 18) (by rfl) (by decide) (rfl : _ = Value.bool (decide ((a0.length : Int) < 1))) hb (by decide) ?_
      refine L_gf (e := 18) (by rfl) (by decide) (rfl : _ = Value.bool (decide ((a0.length : Int) < 1))) hb (by decide) ?_
      refine L_pick_t (rfl : _ = Value.bool (decide ((a0.length : Int) < 1))) hb (rfl : _ = Value.bool (true)) (by decide) ?_
      refine L_assign (rfl : _ = Value.bool true) (by decide) ?_
      refine L_nil ?_
      refine then_n ?_
      refine W_cond true rfl (fun _ => ?_) (fun h => by cases h)
      refine W_seq ?_
      refine W_region ?_
      refine L_assign (rfl : _ = Value.map none) (by decide) ?_
      refine L_assign (rfl : _ = Value.slice none 0 0) (by decide) ?_
      refine L_assign (rfl : _ = Value.int .i64 3) (by decide) ?_
      refine L_nil ?_
      refine then_n ?_
      refine W_ret ?_
      refine block_r ?_
      refine then_r ?_
      obtain rfl := Option.some.inj (ite_t rfl hr)
      exact done3 (Or.inl rfl) Try.results52 rfl rfl rfl ⟨_, s0, rfl, rfl, hE0, psgR_err⟩
    · have ho1 := ite_f hb ho1
      obtain rfl := Option.some.inj ho1
      refine L_gt (e := 18) (by rfl) (by decide) (rfl : _ = Value.bool (decide ((a0.length : Int) < 1))) hb ?_
      refine L_move (rfl : _ = w0) (by decide) ?_
      refine L_gt (e := 18) (by rfl) (by decide) (rfl : _ = Value.bool (decide ((a0.length : Int) < 1))) hb ?_
      refine L_len Try.underlying49 (rfl : _ = w0) h0 (by decide) ?_
      refine L_gt (e := 18) (by rfl) (by decide) (rfl : _ = Value.bool (decide ((a0.length : Int) < 1))) hb ?_
      refine L_gtr (rfl : _ = Value.int .i64 ((a0.length : Int))) (rfl : _ = Value.int .i64 (64)) (by decide) ?_
      refine L_pick_f (rfl : _ = Value.bool (decide ((a0.length : Int) < 1))) hb (rfl : _ = Value.bool (decide (64 < (a0.length : Int)))) (by decide) ?_
      refine L_assign (rfl : _ = Value.bool (decide (64 < (a0.length : Int)))) (by decide) ?_
      refine L_nil ?_
      refine then_n ?_
      refine W_cond _ (rfl : _ = Value.bool (decide (64 < (a0.length : Int)))) (fun hb2 => ?_) (fun hb2 => ?_)
      · have hr := ite_t hb2 hr
        refine W_seq ?_
        refine W_region ?_
        refine L_assign (rfl : _ = Value.map none) (by decide) ?_
        refine L_assign (rfl : _ = Value.slice none 0 0) (by decide) ?_
        refine L_assign (rfl : _ = Value.int .i64 3) (by decide) ?_
        refine L_nil ?_
        refine then_n ?_
        refine W_ret ?_
        refine block_r ?_
        refine then_r ?_
        obtain rfl := Option.some.inj hr
        exact done3 (Or.inl rfl) Try.results52 rfl rfl rfl ⟨_, s0, rfl, rfl, hE0, psgR_err⟩
      · have hr := ite_f hb2 hr
        obtain ⟨y1, hy1, hr⟩ := bind_some hr
        refine W_seq ?_
        refine W_region ?_
        refine L_move (rfl : _ = w0) (by decide) ?_
        refine L_calls callC (args2 (rfl : _ = w0) (rfl : _ = Value.func (.func 83) #[] #[])) (slices_ContainsFunc_LLcheck_Item_Lcheck_Item_ok N _ _ _ h0 _ (check_passages_1 N) (Fn1.mk0 callD fun t vx x r hl hv hr => check_passages_1_ok N t vx x hv r hr) y1 hy1) (by decide) ?_
        intro v1 s1 e1 hv1
        obtain rfl := hv1.bool
        refine L_assign (rfl : _ = Value.bool y1) (by decide) ?_
        refine L_nil ?_
        refine then_n ?_
        refine W_cond _ (rfl : _ = Value.bool y1) (fun hb3 => ?_) (fun hb3 => ?_)
        · have hr := ite_t hb3 hr
          refine W_seq ?_
          refine W_region ?_
          refine L_assign (rfl : _ = Value.map none) (by decide) ?_
          refine L_assign (rfl : _ = Value.slice none 0 0) (by decide) ?_
          refine L_assign (rfl : _ = Value.int .i64 9) (by decide) ?_
          refine L_nil ?_
          refine then_n ?_
          refine W_ret ?_
          refine block_r ?_
          refine then_r ?_
          obtain rfl := Option.some.inj hr
          exact done3 (Or.inl rfl) Try.results52 rfl rfl rfl ⟨_, s1, rfl, rfl, e1, psgR_err⟩
        · have hr := ite_f hb3 hr
          refine W_skip ?_
          refine block_n ?_
          have h64 : (a0.length : Int) ≤ 64 := by simpa using hb2
          exact then_n ⟨s1, rfl, e1, rfl, h64, hr⟩
  · rintro f w ⟨s1, rfl, hE1, g0, h64, hr⟩
    obtain ⟨o, ho, hr⟩ := bind_some hr
    refine W_seq_cut (fun f w => ∃ (s : St) (bm ba : Nat), s.w = w ∧ PJ s0 s bm ba a0.length [] (List.replicate a0.length 0) ∧ f 0 = w0 ∧ f 5 = Value.map (some bm) ∧ f 6 = Value.slice (some ⟨ba, 0, none⟩) a0.length a0.length) ?_ ?_
    · have hEd := hE1.trans (Ext.drew s1)
      have l1 := hEd.size
      refine W_any (s := s1) mixed ?_
      refine AN_two 0 1 (by kernel_rfl) rfl rfl rfl rfl ?_ ?_
      · refine L_makeMap (s := s1.drew) (β := RawV) (by decide) ?_
        intro sm bm em hbm hm
        have l2 := hm.lt
        have l3 := em.size
        refine L_nil ⟨rfl, ?_⟩
        refine AN_two 1 4 (by kernel_rfl) rfl rfl rfl rfl ?_ ?_
        · refine L_move g0 (by decide) ?_
          refine L_nil ⟨rfl, ?_⟩
          refine AN_two 2 4 (by kernel_rfl) rfl rfl rfl rfl ?_ ?_
          · refine L_len Try.underlying49 (rfl : _ = w0) (h0.mono (hEd.trans em).le) (by decide) ?_
            refine L_nil ⟨rfl, ?_⟩
            refine AN_two 3 4 (by kernel_rfl) rfl rfl rfl rfl ?_ ?_
            · refine L_makeArr (s := sm) (x0 := (0 : Int)) Try.underlying40 tyz3 (rfl : _ = Value.int .i64 (a0.length : Int)) (by omega) (by omega) (by omega) (fun _ => rfl) (by decide) ?_
              intro sa ba ea hba ha
              have l4 := Arr.lt ha
              have l5 := ea.size
              refine L_nil ⟨rfl, ?_⟩
              refine AN_one 4 (by kernel_rfl) rfl rfl ?_
              refine L_assign (rfl : _ = Value.map (some bm)) (by decide) ?_
              refine L_nil ⟨rfl, ?_⟩
              refine AN_one 5 (by kernel_rfl) rfl rfl ?_
              refine L_assign (rfl : _ = Value.slice (some ⟨ba, 0, none⟩) a0.length a0.length) (by decide) ?_
              refine L_nil ⟨rfl, ?_⟩
              refine AN_done (by kernel_rfl) ⟨rfl, sa, bm, ba, rfl, ⟨((hEd.trans em).trans ea), ⟨hm.ext ea, (fun e he => by cases he), List.nodup_nil⟩, ha, by omega, by omega, fun x => ?_⟩, g0, rfl, rfl⟩
              rcases x with x | ⟨_, he, _⟩
              · omega
              · cases he
            · refine L_assign (rfl : _ = Value.map (some bm)) (by decide) ?_
              refine L_nil ⟨rfl, ?_⟩
              refine AN_one 3 (by kernel_rfl) rfl rfl ?_
              refine L_makeArr (s := sm) (x0 := (0 : Int)) Try.underlying40 tyz3 (rfl : _ = Value.int .i64 (a0.length : Int)) (by omega) (by omega) (by omega) (fun _ => rfl) (by decide) ?_
              intro sa ba ea hba ha
              have l4 := Arr.lt ha
              have l5 := ea.size
              refine L_nil ⟨rfl, ?_⟩
              refine AN_one 5 (by kernel_rfl) rfl rfl ?_
              refine L_assign (rfl : _ = Value.slice (some ⟨ba, 0, none⟩) a0.length a0.length) (by decide) ?_
              refine L_nil ⟨rfl, ?_⟩
              refine AN_done (by kernel_rfl) ⟨rfl, sa, bm, ba, rfl, ⟨((hEd.trans em).trans ea), ⟨hm.ext ea, (fun e he => by cases he), List.nodup_nil⟩, ha, by omega, by omega, fun x => ?_⟩, g0, rfl, rfl⟩
              rcases x with x | ⟨_, he, _⟩
              · omega
              · cases he
          · refine L_assign (rfl : _ = Value.map (some bm)) (by decide) ?_
            refine L_nil ⟨rfl, ?_⟩
            refine AN_one 2 (by kernel_rfl) rfl rfl ?_
            refine L_len Try.underlying49 (rfl : _ = w0) (h0.mono (hEd.trans em).le) (by decide) ?_
            refine L_nil ⟨rfl, ?_⟩
            refine AN_one 3 (by kernel_rfl) rfl rfl ?_
            refine L_makeArr (s := sm) (x0 := (0 : Int)) Try.underlying40 tyz3 (rfl : _ = Value.int .i64 (a0.length : Int)) (by omega) (by omega) (by omega) (fun _ => rfl) (by decide) ?_
            intro sa ba ea hba ha
            have l4 := Arr.lt ha
            have l5 := ea.size
            refine L_nil ⟨rfl, ?_⟩
            refine AN_one 5 (by kernel_rfl) rfl rfl ?_
            refine L_assign (rfl : _ = Value.slice (some ⟨ba, 0, none⟩) a0.length a0.length) (by decide) ?_
            refine L_nil ⟨rfl, ?_⟩
            refine AN_done (by kernel_rfl) ⟨rfl, sa, bm, ba, rfl, ⟨((hEd.trans em).trans ea), ⟨hm.ext ea, (fun e he => by cases he), List.nodup_nil⟩, ha, by omega, by omega, fun x => ?_⟩, g0, rfl, rfl⟩
            rcases x with x | ⟨_, he, _⟩
            · omega
            · cases he
        · refine L_assign (rfl : _ = Value.map (some bm)) (by decide) ?_
          refine L_nil ⟨rfl, ?_⟩
          refine AN_one 1 (by kernel_rfl) rfl rfl ?_
          refine L_move g0 (by decide) ?_
          refine L_nil ⟨rfl, ?_⟩
          refine AN_one 2 (by kernel_rfl) rfl rfl ?_
          refine L_len Try.underlying49 (rfl : _ = w0) (h0.mono (hEd.trans em).le) (by decide) ?_
          refine L_nil ⟨rfl, ?_⟩
          refine AN_one 3 (by kernel_rfl) rfl rfl ?_
          refine L_makeArr (s := sm) (x0 := (0 : Int)) Try.underlying40 tyz3 (rfl : _ = Value.int .i64 (a0.length : Int)) (by omega) (by omega) (by omega) (fun _ => rfl) (by decide) ?_
          intro sa ba ea hba ha
          have l4 := Arr.lt ha
          have l5 := ea.size
          refine L_nil ⟨rfl, ?_⟩
          refine AN_one 5 (by kernel_rfl) rfl rfl ?_
          refine L_assign (rfl : _ = Value.slice (some ⟨ba, 0, none⟩) a0.length a0.length) (by decide) ?_
          refine L_nil ⟨rfl, ?_⟩
          refine AN_done (by kernel_rfl) ⟨rfl, sa, bm, ba, rfl, ⟨((hEd.trans em).trans ea), ⟨hm.ext ea, (fun e he => by cases he), List.nodup_nil⟩, ha, by omega, by omega, fun x => ?_⟩, g0, rfl, rfl⟩
          rcases x with x | ⟨_, he, _⟩
          · omega
          · cases he
      · refine L_move g0 (by decide) ?_
        refine L_nil ⟨rfl, ?_⟩
        refine AN_two 0 2 (by kernel_rfl) rfl rfl rfl rfl ?_ ?_
        · refine L_makeMap (s := s1.drew) (β := RawV) (by decide) ?_
          intro sm bm em hbm hm
          have l2 := hm.lt
          have l3 := em.size
          refine L_nil ⟨rfl, ?_⟩
          refine AN_two 2 4 (by kernel_rfl) rfl rfl rfl rfl ?_ ?_
          · refine L_len Try.underlying49 (rfl : _ = w0) (h0.mono (hEd.trans em).le) (by decide) ?_
            refine L_nil ⟨rfl, ?_⟩
            refine AN_two 3 4 (by kernel_rfl) rfl rfl rfl rfl ?_ ?_
            · refine L_makeArr (s := sm) (x0 := (0 : Int)) Try.underlying40 tyz3 (rfl : _ = Value.int .i64 (a0.length : Int)) (by omega) (by omega) (by omega) (fun _ => rfl) (by decide) ?_
              intro sa ba ea hba ha
              have l4 := Arr.lt ha
              have l5 := ea.size
              refine L_nil ⟨rfl, ?_⟩
              refine AN_one 4 (by kernel_rfl) rfl rfl ?_
              refine L_assign (rfl : _ = Value.map (some bm)) (by decide) ?_
              refine L_nil ⟨rfl, ?_⟩
              refine AN_one 5 (by kernel_rfl) rfl rfl ?_
              refine L_assign (rfl : _ = Value.slice (some ⟨ba, 0, none⟩) a0.length a0.length) (by decide) ?_
              refine L_nil ⟨rfl, ?_⟩
              refine AN_done (by kernel_rfl) ⟨rfl, sa, bm, ba, rfl, ⟨((hEd.trans em).trans ea), ⟨hm.ext ea, (fun e he => by cases he), List.nodup_nil⟩, ha, by omega, by omega, fun x => ?_⟩, g0, rfl, rfl⟩
              rcases x with x | ⟨_, he, _⟩
              · omega
              · cases he
            · refine L_assign (rfl : _ = Value.map (some bm)) (by decide) ?_
              refine L_nil ⟨rfl, ?_⟩
              refine AN_one 3 (by kernel_rfl) rfl rfl ?_
              refine L_makeArr (s := sm) (x0 := (0 : Int)) Try.underlying40 tyz3 (rfl : _ = Value.int .i64 (a0.length : Int)) (by omega) (by omega) (by omega) (fun _ => rfl) (by decide) ?_
              intro sa ba ea hba ha
              have l4 := Arr.lt ha
              have l5 := ea.size
              refine L_nil ⟨rfl, ?_⟩
              refine AN_one 5 (by kernel_rfl) rfl rfl ?_
              refine L_assign (rfl : _ = Value.slice (some ⟨ba, 0, none⟩) a0.length a0.length) (by decide) ?_
              refine L_nil ⟨rfl, ?_⟩
              refine AN_done (by kernel_rfl) ⟨rfl, sa, bm, ba, rfl, ⟨((hEd.trans em).trans ea), ⟨hm.ext ea, (fun e he => by cases he), List.nodup_nil⟩, ha, by omega, by omega, fun x => ?_⟩, g0, rfl, rfl⟩
              rcases x with x | ⟨_, he, _⟩
              · omega
              · cases he
          · refine L_assign (rfl : _ = Value.map (some bm)) (by decide) ?_
            refine L_nil ⟨rfl, ?_⟩
            refine AN_one 2 (by kernel_rfl) rfl rfl ?_
            refine L_len Try.underlying49 (rfl : _ = w0) (h0.mono (hEd.trans em).le) (by decide) ?_
            refine L_nil ⟨rfl, ?_⟩
            refine AN_one 3 (by kernel_rfl) rfl rfl ?_
            refine L_makeArr (s := sm) (x0 := (0 : Int)) Try.underlying40 tyz3 (rfl : _ = Value.int .i64 (a0.length : Int)) (by omega) (by omega) (by omega) (fun _ => rfl) (by decide) ?_
            intro sa ba ea hba ha
            have l4 := Arr.lt ha
            have l5 := ea.size
            refine L_nil ⟨rfl, ?_⟩
            refine AN_one 5 (by kernel_rfl) rfl rfl ?_
            refine L_assign (rfl : _ = Value.slice (some ⟨ba, 0, none⟩) a0.length a0.length) (by decide) ?_
            refine L_nil ⟨rfl, ?_⟩
            refine AN_done (by kernel_rfl) ⟨rfl, sa, bm, ba, rfl, ⟨((hEd.trans em).trans ea), ⟨hm.ext ea, (fun e he => by cases he), List.nodup_nil⟩, ha, by omega, by omega, fun x => ?_⟩, g0, rfl, rfl⟩
            rcases x with x | ⟨_, he, _⟩
            · omega
            · cases he
        · refine L_len Try.underlying49 (rfl : _ = w0) (h0.mono hEd.le) (by decide) ?_
          refine L_nil ⟨rfl, ?_⟩
          refine AN_two 0 3 (by kernel_rfl) rfl rfl rfl rfl ?_ ?_
          · refine L_makeMap (s := s1.drew) (β := RawV) (by decide) ?_
            intro sm bm em hbm hm
            have l2 := hm.lt
            have l3 := em.size
            refine L_nil ⟨rfl, ?_⟩
            refine AN_two 3 4 (by kernel_rfl) rfl rfl rfl rfl ?_ ?_
            · refine L_makeArr (s := sm) (x0 := (0 : Int)) Try.underlying40 tyz3 (rfl : _ = Value.int .i64 (a0.length : Int)) (by omega) (by omega) (by omega) (fun _ => rfl) (by decide) ?_
              intro sa ba ea hba ha
              have l4 := Arr.lt ha
              have l5 := ea.size
              refine L_nil ⟨rfl, ?_⟩
              refine AN_one 4 (by kernel_rfl) rfl rfl ?_
              refine L_assign (rfl : _ = Value.map (some bm)) (by decide) ?_
              refine L_nil ⟨rfl, ?_⟩
              refine AN_one 5 (by kernel_rfl) rfl rfl ?_
              refine L_assign (rfl : _ = Value.slice (some ⟨ba, 0, none⟩) a0.length a0.length) (by decide) ?_
              refine L_nil ⟨rfl, ?_⟩
              refine AN_done (by kernel_rfl) ⟨rfl, sa, bm, ba, rfl, ⟨((hEd.trans em).trans ea), ⟨hm.ext ea, (fun e he => by cases he), List.nodup_nil⟩, ha, by omega, by omega, fun x => ?_⟩, g0, rfl, rfl⟩
              rcases x with x | ⟨_, he, _⟩
              · omega
              · cases he
            · refine L_assign (rfl : _ = Value.map (some bm)) (by decide) ?_
              refine L_nil ⟨rfl, ?_⟩
              refine AN_one 3 (by kernel_rfl) rfl rfl ?_
              refine L_makeArr (s := sm) (x0 := (0 : Int)) Try.underlying40 tyz3 (rfl : _ = Value.int .i64 (a0.length : Int)) (by omega) (by omega) (by omega) (fun _ => rfl) (by decide) ?_
              intro sa ba ea hba ha
              have l4 := Arr.lt ha
              have l5 := ea.size
              refine L_nil ⟨rfl, ?_⟩
              refine AN_one 5 (by kernel_rfl) rfl rfl ?_
              refine L_assign (rfl : _ = Value.slice (some ⟨ba, 0, none⟩) a0.length a0.length) (by decide) ?_
              refine L_nil ⟨rfl, ?_⟩
              refine AN_done (by kernel_rfl) ⟨rfl, sa, bm, ba, rfl, ⟨((hEd.trans em).trans ea), ⟨hm.ext ea, (fun e he => by cases he), List.nodup_nil⟩, ha, by omega, by omega, fun x => ?_⟩, g0, rfl, rfl⟩
              rcases x with x | ⟨_, he, _⟩
              · omega
              · cases he
          · refine L_makeArr (s := s1.drew) (x0 := (0 : Int)) Try.underlying40 tyz3 (rfl : _ = Value.int .i64 (a0.length : Int)) (by omega) (by omega) (by omega) (fun _ => rfl) (by decide) ?_
            intro sa ba ea hba ha
            have l4 := Arr.lt ha
            have l5 := ea.size
            refine L_nil ⟨rfl, ?_⟩
            refine AN_one 0 (by kernel_rfl) rfl rfl ?_
            refine L_makeMap (s := sa) (β := RawV) (by decide) ?_
            intro sm bm em hbm hm
            have l2 := hm.lt
            have l3 := em.size
            refine L_nil ⟨rfl, ?_⟩
            refine AN_one 4 (by kernel_rfl) rfl rfl ?_
            refine L_assign (rfl : _ = Value.map (some bm)) (by decide) ?_
            refine L_nil ⟨rfl, ?_⟩
            refine AN_one 5 (by kernel_rfl) rfl rfl ?_
            refine L_assign (rfl : _ = Value.slice (some ⟨ba, 0, none⟩) a0.length a0.length) (by decide) ?_
            refine L_nil ⟨rfl, ?_⟩
            refine AN_done (by kernel_rfl) ⟨rfl, sm, bm, ba, rfl, ⟨((hEd.trans ea).trans em), ⟨hm, (fun e he => by cases he), List.nodup_nil⟩, Arr.ext ha em, by omega, by omega, fun x => ?_⟩, g0, rfl, rfl⟩
            rcases x with x | ⟨_, he, _⟩
            · omega
            · cases he
    · rintro f w ⟨s2, bm, ba, rfl, hJ, g0, g5, g6⟩
      refine W_seq_cut (fun f w => ∃ (s : St) (os : List (Int × (Nat × Psg))) (sv : List Int), s.w = w ∧ PJ s0 s bm ba a0.length os sv ∧ o = some (os.map toP, sv) ∧ f 5 = Value.map (some bm) ∧ f 6 = Value.slice (some ⟨ba, 0, none⟩) a0.length a0.length) ?_ ?_
      · refine W_seq ?_
        refine W_region ?_
        refine L_move g0 (by decide) ?_
        refine L_len Try.underlying49 (rfl : _ = w0) (h0.mono hJ.ext.le) (by decide) ?_
        refine L_move (rfl : _ = Value.int .i64 0) (by decide) ?_
        refine L_nil ?_
        refine then_n ?_
        refine W_block ?_
        refine W_loop (fun m f w => ∃ (s : St) (os : List (Int × (Nat × Psg))) (sv : List Int) (p : Int), s.w = w ∧ PJ s0 s bm ba a0.length os sv ∧ psgP N a0 m p (os.map toP) sv = some o ∧ f 5 = Value.map (some bm) ∧ f 6 = Value.slice (some ⟨ba, 0, none⟩) a0.length a0.length ∧ f 30 = w0 ∧ f 31 = Value.int .i64 (a0.length : Int) ∧ f 32 = Value.int .i64 p) N ⟨s2, [], _, 0, rfl, hJ, ho, g5, g6, rfl, rfl, rfl⟩ ?_
        clear ho hJ g0 g5 g6
        rintro m f w ⟨s3, os, sv, p, rfl, hJ, ho, g5, g6, g30, g31, g32⟩
        cases m with
        | zero => exact absurd ho (by simp [psgP])
        | succ m =>
          rw [psgP] at ho
          refine W_seq ?_
          refine W_region ?_
          refine L_lss g32 g31 (by decide) ?_
          refine L_nil ?_
          refine then_n ?_
          refine W_seq ?_
          refine W_cond _ (rfl : _ = Value.bool (decide (p < (a0.length : Int)))) (fun hb => ?_) (fun hb => ?_)
          · have ho := ite_t hb ho
            obtain ⟨l, hl, ho⟩ := bind_some ho
            obtain ⟨o2, ho2, ho⟩ := bind_some ho
            refine W_skip ?_
            refine then_n ?_
            refine W_seq_cut (fun f w => ∃ (s : St) (os : List (Int × (Nat × Psg))) (sv : List Int), s.w = w ∧ PJ s0 s bm ba a0.length os sv ∧ o2 = some (os.map toP, sv) ∧ f 5 = Value.map (some bm) ∧ f 6 = Value.slice (some ⟨ba, 0, none⟩) a0.length a0.length ∧ f 30 = w0 ∧ f 31 = Value.int .i64 (a0.length : Int) ∧ f 32 = Value.int .i64 p) ?_ ?_
            · refine W_block ?_
              refine W_seq ?_
              refine W_region ?_
              refine L_move g32 (by decide) ?_
              refine L_index Try.underlying49 ty50.inf g30 (h0.mono hJ.ext.le) g32 hl (by decide) ?_
              intro q1 hq1
              refine L_load ty50 (rfl : _ = q1) hq1 (by decide) ?_
              intro v1 hv1
              refine L_assign (rfl : _ = Value.int .i64 p) (by decide) ?_
              refine L_assign (rfl : _ = v1) (by decide) ?_
              refine L_nil ?_
              refine then_n ?_
              refine W_seq ?_
              refine W_region ?_
              refine L_move (rfl : _ = v1) (by decide) ?_
              refine L_len Try.underlying50 (rfl : _ = v1) hv1 (by decide) ?_
              refine L_move (rfl : _ = Value.int .i64 0) (by decide) ?_
              refine L_nil ?_
              refine then_n ?_
              refine W_block ?_
              refine W_loop (fun m f w => ∃ (s : St) (os : List (Int × (Nat × Psg))) (sv : List Int) (i : Int), s.w = w ∧ PJ s0 s bm ba a0.length os sv ∧ Le s3 s ∧ psgI p l m i (os.map toP) sv = some o2 ∧ f 5 = Value.map (some bm) ∧ f 6 = Value.slice (some ⟨ba, 0, none⟩) a0.length a0.length ∧ f 7 = Value.int .i64 p ∧ f 30 = w0 ∧ f 31 = Value.int .i64 (a0.length : Int) ∧ f 32 = Value.int .i64 p ∧ f 37 = v1 ∧ f 38 = Value.int .i64 (l.length : Int) ∧ f 39 = Value.int .i64 i) N ⟨s3, os, sv, 0, rfl, hJ, Le.refl _, ho2, g5, g6, rfl, g30, g31, g32, rfl, rfl, rfl⟩ ?_
              clear ho2 hJ g5 g6 g30 g31 g32
              rintro m f w ⟨s4, os, sv, i, rfl, hJ, l4, ho2, g5, g6, g7, g30, g31, g32, g37, g38, g39⟩
              cases m with
              | zero => exact absurd ho2 (by simp [psgI])
              | succ m =>
                rw [psgI] at ho2
                refine W_seq ?_
                refine W_region ?_
                refine L_lss g39 g38 (by decide) ?_
                refine L_nil ?_
                refine then_n ?_
                refine W_seq ?_
                refine W_cond _ (rfl : _ = Value.bool (decide (i < (l.length : Int)))) (fun hb2 => ?_) (fun hb2 => ?_)
                · have ho2 := ite_t hb2 ho2
                  obtain ⟨x, hx, ho2⟩ := bind_some ho2
                  obtain ⟨o3, ho3, ho2⟩ := bind_some ho2
                  refine W_skip ?_
                  refine then_n ?_
                  refine W_seq_cut (fun f w => ∃ (s : St) (os : List (Int × (Nat × Psg))) (sv : List Int), s.w = w ∧ PJ s0 s bm ba a0.length os sv ∧ Le s4 s ∧ o3 = some (os.map toP, sv) ∧ f 5 = Value.map (some bm) ∧ f 6 = Value.slice (some ⟨ba, 0, none⟩) a0.length a0.length ∧ f 7 = Value.int .i64 p ∧ f 30 = w0 ∧ f 31 = Value.int .i64 (a0.length : Int) ∧ f 32 = Value.int .i64 p ∧ f 37 = v1 ∧ f 38 = Value.int .i64 (l.length : Int) ∧ f 39 = Value.int .i64 i) ?_ ?_
                  · refine W_block ?_
                    refine W_seq ?_
                    refine W_region ?_
                    refine L_index Try.underlying50 ty55.inf g37 (hv1.mono l4) g39 hx (by decide) ?_
                    intro q2 hq2
                    refine L_load ty55 (rfl : _ = q2) hq2 (by decide) ?_
                    intro v2 hv2
                    refine L_alloc (α := Item) (x := ⟨0, 0⟩) zeroI Item.zero_rel (by decide) ?_
                    intro s5 bx e5 hbx hX
                    refine L_store_ro ty55 (rfl : _ = Value.pointer (some ⟨bx, 0, none⟩)) (rfl : _ = v2) (hv2.mono e5.le) hX ?_
                    intro s6 t6 hX
                    have E6 : Ext s4 s6 := extW e5 t6 (fun k hk => hk ▸ hbx)
                    have hJ := hJ.more E6
                    refine L_nil ?_
                    refine then_n ?_
                    refine W_seq ?_
                    refine W_seq_cut (fun f w => w = s6.w ∧ PF f bm ba a0.length l.length p i w0 v1 bx ∧ f 50 = Value.bool (decide (x.Kind = 1) && decide (x.No = 0))) ?_ ?_
                    · refine W_region ?_
                      refine L_fieldAddr fldI0 Item.of_Kind (rfl : _ = Value.pointer (some ⟨bx, 0, none⟩)) hX (by decide) ?_
                      intro p1 hp1
                      refine L_load_int ty3 (rfl : _ = p1) hp1 (by decide) ?_
                      refine L_eql (rfl : _ = Value.int .i64 x.Kind) (rfl : _ = Value.int .i64 1) (by decide) ?_
                      refine L_move (rfl : _ = Value.bool (decide (x.Kind = 1))) (by decide) ?_
                      rcases Bool.eq_false_or_eq_true (decide (x.Kind = 1)) with hk | hk
                      · refine L_gt (e := 46) (by rfl) (by decide) (rfl : _ = Value.bool (decide (x.Kind = 1))) hk ?_
                        refine L_fieldAddr fldI1 Item.of_No (rfl : _ = Value.pointer (some ⟨bx, 0, none⟩)) hX (by decide) ?_
                        intro p2 hp2
                        refine L_gt (e := 46) (by rfl) (by decide) (rfl : _ = Value.bool (decide (x.Kind = 1))) hk ?_
                        refine L_load_int ty3 (rfl : _ = p2) hp2 (by decide) ?_
                        refine L_gt (e := 46) (by rfl) (by decide) (rfl : _ = Value.bool (decide (x.Kind = 1))) hk ?_
                        refine L_eql (rfl : _ = Value.int .i64 x.No) (rfl : _ = Value.int .i64 0) (by decide) ?_
                        refine L_pick_t (rfl : _ = Value.bool (decide (x.Kind = 1))) hk (rfl : _ = Value.bool (decide (x.No = 0))) (by decide) ?_
                        refine L_nil ?_
                        exact then_n ⟨rfl, ⟨g5, g6, g7, g30, g31, g32, g37, g38, g39, rfl⟩, by rw [hk, Bool.true_and]; rfl⟩
                      · refine L_gf (e := 46) (by rfl) (by decide) (rfl : _ = Value.bool (decide (x.Kind = 1))) hk (by decide) ?_
                        refine L_gf (e := 46) (by rfl) (by decide) (rfl : _ = Value.bool (decide (x.Kind = 1))) hk (by decide) ?_
                        refine L_gf (e := 46) (by rfl) (by decide) (rfl : _ = Value.bool (decide (x.Kind = 1))) hk (by decide) ?_
                        refine L_pick_f (rfl : _ = Value.bool (decide (x.Kind = 1))) hk (rfl : _ = Value.bool false) (by decide) ?_
                        refine L_nil ?_
                        exact then_n ⟨rfl, ⟨g5, g6, g7, g30, g31, g32, g37, g38, g39, rfl⟩, by rw [hk, Bool.false_and]; rfl⟩
                    rintro f w ⟨rfl, hF, g50⟩
                    unfold psgItem at ho3
                    clear g5 g6 g7 g30 g31 g32 g37 g38 g39
                    refine W_cond _ g50 (fun hb3 => ?_) (fun hb3 => ?_)
                    · have ho3 := ite_t hb3 ho3
                      obtain ⟨c, hc, ho3⟩ := bind_some ho3
                      obtain ⟨hc1, ho3⟩ := chk_some ho3
                      have hi := idx_some hc
                      have hlen := hJ.arr.1
                      refine W_seq ?_
                      refine W_region ?_
                      refine L_move hF.g6 (by decide) ?_
                      refine L_move hF.g7 (by decide) ?_
                      refine L_indexA (sz := 1) Try.underlying40 ty3.inf (rfl : _ = Value.slice (some ⟨ba, 0, none⟩) a0.length a0.length) (rfl : _ = Value.int .i64 p) hi.1 (by omega) (by decide) ?_
                      refine L_loadA ty3 (rfl : _ = Value.pointer (some ⟨ba, p.toNat * 1, none⟩)) hJ.arr hc (by decide) ?_
                      intro vc hvc
                      obtain rfl := hvc.int
                      refine L_add (rfl : _ = Value.int .i64 c) (rfl : _ = Value.int .i64 1) hc1 (by decide) ?_
                      refine L_indexA (sz := 1) Try.underlying40 ty3.inf (rfl : _ = Value.slice (some ⟨ba, 0, none⟩) a0.length a0.length) (rfl : _ = Value.int .i64 p) hi.1 (by omega) (by decide) ?_
                      refine L_storeA ty3 (rfl : _ = Value.pointer (some ⟨ba, p.toNat * 1, none⟩)) (rfl : _ = Value.int .i64 (c + 1)) (Vint (x := c + 1)) hJ.arr hc ?_
                      intro s7 t7 ha7
                      have hJ7 := hJ.setA t7 ha7
                      refine L_nil ?_
                      refine then_n ?_
                      refine W_exit ?_
                      repeat refine then_x ?_
                      refine block_here ?_
                      obtain rfl := Option.some.inj ho3
                      exact then_n ⟨s7, os, _, rfl, hJ7, E6.le.trans t7.le, rfl, hF.g5, hF.g6, hF.g7, hF.g30, hF.g31, hF.g32, hF.g37, hF.g38, hF.g39⟩
                    have ho3 := ite_f hb3 ho3
                    refine W_skip ?_
                    refine then_n ?_
                    refine W_seq ?_
                    refine W_seq_cut (fun f w => w = s6.w ∧ PF f bm ba a0.length l.length p i w0 v1 bx ∧ f 69 = Value.bool (((!decide (x.Kind = 2)) && (!decide (x.Kind = 3))) || decide (x.No < 0))) ?_ ?_
                    · refine W_region ?_
                      refine L_fieldAddr fldI0 Item.of_Kind hF.g10 hX (by decide) ?_
                      intro p1 hp1
                      refine L_load_int ty3 (rfl : _ = p1) hp1 (by decide) ?_
                      refine L_neq (rfl : _ = Value.int .i64 x.Kind) (rfl : _ = Value.int .i64 2) (by decide) ?_
                      refine L_move (rfl : _ = Value.bool (!decide (x.Kind = 2))) (by decide) ?_
                      rcases Bool.eq_false_or_eq_true (!decide (x.Kind = 2)) with hk | hk
                      · refine L_gt (e := 60) (by rfl) (by decide) (rfl : _ = Value.bool (!decide (x.Kind = 2))) hk ?_
                        refine L_fieldAddr fldI0 Item.of_Kind hF.g10 hX (by decide) ?_
                        intro p2 hp2
                        refine L_gt (e := 60) (by rfl) (by decide) (rfl : _ = Value.bool (!decide (x.Kind = 2))) hk ?_
                        refine L_load_int ty3 (rfl : _ = p2) hp2 (by decide) ?_
                        refine L_gt (e := 60) (by rfl) (by decide) (rfl : _ = Value.bool (!decide (x.Kind = 2))) hk ?_
                        refine L_neq (rfl : _ = Value.int .i64 x.Kind) (rfl : _ = Value.int .i64 3) (by decide) ?_
                        refine L_pick_t (rfl : _ = Value.bool (!decide (x.Kind = 2))) hk (rfl : _ = Value.bool (!decide (x.Kind = 3))) (by decide) ?_
                        refine L_move (rfl : _ = Value.bool (!decide (x.Kind = 3))) (by decide) ?_
                        rcases Bool.eq_false_or_eq_true (!decide (x.Kind = 3)) with hk3 | hk3
                        · refine L_gf (e := 65) (by rfl) (by decide) (rfl : _ = Value.bool (!decide (x.Kind = 3))) hk3 (by decide) ?_
                          refine L_gf (e := 65) (by rfl) (by decide) (rfl : _ = Value.bool (!decide (x.Kind = 3))) hk3 (by decide) ?_
                          refine L_gf (e := 65) (by rfl) (by decide) (rfl : _ = Value.bool (!decide (x.Kind = 3))) hk3 (by decide) ?_
                          refine L_pick_t (rfl : _ = Value.bool (!decide (x.Kind = 3))) hk3 (rfl : _ = Value.bool true) (by decide) ?_
                          refine L_nil ?_
                          exact then_n ⟨rfl, hF.up, by rw [hk, hk3, Bool.true_and, Bool.true_or]; rfl⟩
                        · refine L_gt (e := 65) (by rfl) (by decide) (rfl : _ = Value.bool (!decide (x.Kind = 3))) hk3 ?_
                          refine L_fieldAddr fldI1 Item.of_No hF.g10 hX (by decide) ?_
                          intro p3 hp3
                          refine L_gt (e := 65) (by rfl) (by decide) (rfl : _ = Value.bool (!decide (x.Kind = 3))) hk3 ?_
                          refine L_load_int ty3 (rfl : _ = p3) hp3 (by decide) ?_
                          refine L_gt (e := 65) (by rfl) (by decide) (rfl : _ = Value.bool (!decide (x.Kind = 3))) hk3 ?_
                          refine L_lss (rfl : _ = Value.int .i64 x.No) (rfl : _ = Value.int .i64 0) (by decide) ?_
                          refine L_pick_f (rfl : _ = Value.bool (!decide (x.Kind = 3))) hk3 (rfl : _ = Value.bool (decide (x.No < 0))) (by decide) ?_
                          refine L_nil ?_
                          exact then_n ⟨rfl, hF.up, by rw [hk, hk3, Bool.and_false, Bool.false_or]; rfl⟩
                      · refine L_gf (e := 60) (by rfl) (by decide) (rfl : _ = Value.bool (!decide (x.Kind = 2))) hk (by decide) ?_
                        refine L_gf (e := 60) (by rfl) (by decide) (rfl : _ = Value.bool (!decide (x.Kind = 2))) hk (by decide) ?_
                        refine L_gf (e := 60) (by rfl) (by decide) (rfl : _ = Value.bool (!decide (x.Kind = 2))) hk (by decide) ?_
                        refine L_pick_f (rfl : _ = Value.bool (!decide (x.Kind = 2))) hk (rfl : _ = Value.bool false) (by decide) ?_
                        refine L_move (rfl : _ = Value.bool false) (by decide) ?_
                        refine L_gt (e := 65) (by rfl) (by decide) (rfl : _ = Value.bool false) rfl ?_
                        refine L_fieldAddr fldI1 Item.of_No hF.g10 hX (by decide) ?_
                        intro p3 hp3
                        refine L_gt (e := 65) (by rfl) (by decide) (rfl : _ = Value.bool false) rfl ?_
                        refine L_load_int ty3 (rfl : _ = p3) hp3 (by decide) ?_
                        refine L_gt (e := 65) (by rfl) (by decide) (rfl : _ = Value.bool false) rfl ?_
                        refine L_lss (rfl : _ = Value.int .i64 x.No) (rfl : _ = Value.int .i64 0) (by decide) ?_
                        refine L_pick_f (rfl : _ = Value.bool false) rfl (rfl : _ = Value.bool (decide (x.No < 0))) (by decide) ?_
                        refine L_nil ?_
                        exact then_n ⟨rfl, hF.up, by rw [hk, Bool.false_and, Bool.false_or]; rfl⟩
                    clear hF g50
                    rintro f w ⟨rfl, hF, g69⟩
                    refine W_cond _ g69 (fun hb4 => ?_) (fun hb4 => ?_)
                    · have ho3 := ite_t hb4 ho3
                      refine W_seq ?_
                      refine W_region ?_
                      refine L_assign (rfl : _ = Value.map none) (by decide) ?_
                      refine L_assign (rfl : _ = Value.slice none 0 0) (by decide) ?_
                      refine L_assign (rfl : _ = Value.int .i64 2) (by decide) ?_
                      refine L_nil ?_
                      refine then_n ?_
                      refine W_ret ?_
                      repeat first | refine then_r ?_ | refine block_r ?_
                      obtain rfl := Option.some.inj ho3
                      obtain rfl := Option.some.inj ho2
                      obtain rfl := Option.some.inj ho
                      obtain rfl := Option.some.inj hr
                      exact done3 (Or.inl rfl) Try.results52 rfl rfl rfl ⟨_, s6, rfl, rfl, hJ.ext, psgR_err⟩
                    have ho3 := ite_f hb4 ho3
                    refine W_skip ?_
                    refine then_n ?_
                    refine W_seq_cut (fun f w => ∃ (s : St) (os' : List (Int × (Nat × Psg))) (b : Nat) (e : Psg), s.w = w ∧ PJ s0 s bm ba a0.length os' sv ∧ Le s6 s ∧ mget os' x.No = some (b, e) ∧ (mget (os.map toP) x.No).getD ⟨⟨none⟩, ⟨none⟩⟩ = e ∧ (∀ e', mset (os.map toP) x.No e' = (mset os' x.No (b, e')).map toP) ∧ PF f bm ba a0.length l.length p i w0 v1 bx) ?_ ?_
                    · refine W_seq ?_
                      refine W_region ?_
                      refine L_move hF.g5 (by decide) ?_
                      refine L_fieldAddr fldI1 Item.of_No hF.g10 hX (by decide) ?_
                      intro p1 hp1
                      refine L_load_int ty3 (rfl : _ = p1) hp1 (by decide) ?_
                      refine L_lookupX und107 Try.underlying3 zero111 (Vraw rfl : V s6 (.pointer none) (⟨.pointer none⟩ : RawV)) (rfl : _ = Value.map (some bm)) (rfl : _ = Value.int .i64 x.No) hJ.obj.map (by decide) ?_
                      intro v3 hv3
                      have hv3 := hv3.raw
                      rw [mget_toM] at hv3
                      cases hk : mget os x.No with
                      | none =>
                        rw [hk] at hv3
                        obtain rfl : v3 = Value.pointer none := hv3
                        refine L_eqlNil undp111 (rfl : _ = Value.pointer none) (rfl : Option.isNone none = true) (by decide) ?_
                        refine L_nil ?_
                        refine then_n ?_
                        refine W_cond true rfl (fun _ => ?_) (fun h => by cases h)
                        refine W_region ?_
                        refine L_move hF.g5 (by decide) ?_
                        refine L_fieldAddr fldI1 Item.of_No hF.g10 hX (by decide) ?_
                        intro p2 hp2
                        refine L_load_int ty3 (rfl : _ = p2) hp2 (by decide) ?_
                        refine L_bld114 (s := s6) (by decide) ?_
                        intro v4 hv4
                        refine L_boxv (rfl : _ = v4) hv4 (by decide) ?_
                        intro s7 b e7 hb hv7
                        have hJ7 := hJ.more e7
                        refine L_mapUpdate und107 Try.underlying3 (rfl : _ = Value.map (some bm)) (rfl : _ = Value.int .i64 x.No) (rfl : _ = Value.pointer (some ⟨b, 0, none⟩)) hJ7.obj.map (Vraw rfl : V s7 (.pointer (some ⟨b, 0, none⟩)) (⟨.pointer (some ⟨b, 0, none⟩)⟩ : RawV)) ?_
                        intro s8 t8 hm8
                        have hlow : s0.w.heap.size ≤ b := Nat.le_trans hJ.ext.size hb
                        have hJ8 := hJ7.put hk hlow (fun x => by have := hJ.obj.lt x; omega) (fun e => by have := Arr.lt hJ.arr; omega) hv7 t8 hm8
                        refine L_nil ?_
                        refine then_n ⟨s8, _, b, _, rfl, hJ8, e7.le.trans t8.le, mget_snoc hk, by rw [mget_toP, hk]; rfl, fun e' => ?_, hF.up⟩
                        rw [mset_snoc hk, mset_toP (b := b), mset_new (fun z hz => ?_)]
                        have := List.any_eq_false.1 (mget_none hk) z hz
                        simpa using this
                      | some be =>
                        obtain ⟨b, e⟩ := be
                        rw [hk] at hv3
                        obtain rfl : v3 = Value.pointer (some ⟨b, 0, none⟩) := hv3
                        refine L_eqlNil undp111 (rfl : _ = Value.pointer (some ⟨b, 0, none⟩)) (rfl : Option.isNone (some (⟨b, 0, none⟩ : Addr)) = false) (by decide) ?_
                        refine L_nil ?_
                        refine then_n ?_
                        refine W_cond false rfl (fun h => by cases h) (fun _ => ?_)
                        refine W_skip ?_
                        exact then_n ⟨s6, os, b, e, rfl, hJ, Le.refl _, hk, by rw [mget_toP, hk]; rfl, fun e' => mset_toP, hF.up⟩
                    clear hF g69
                    rintro f w ⟨s7, os', b, e, rfl, hJ7, l7, hk7, he7, hm7, hF⟩
                    have hX := hX.mono l7
                    rw [he7] at ho3
                    have look : ∀ {v : Value}, V s7 v ((mget (os'.map toM) x.No).getD ⟨.pointer none⟩) → v = Value.pointer (some ⟨b, 0, none⟩) := fun {v} hv => by
                      have h := hv.raw
                      rw [mget_toM, hk7] at h
                      exact h
                    refine W_seq ?_
                    refine W_region ?_
                    refine L_move hF.g5 (by decide) ?_
                    refine L_fieldAddr fldI1 Item.of_No hF.g10 hX (by decide) ?_
                    intro p1 hp1
                    refine L_load_int ty3 (rfl : _ = p1) hp1 (by decide) ?_
                    refine L_lookupX und107 Try.underlying3 zero111 (Vraw rfl : V s7 (.pointer none) (⟨.pointer none⟩ : RawV)) (rfl : _ = Value.map (some bm)) (rfl : _ = Value.int .i64 x.No) hJ7.obj.map (by decide) ?_
                    intro v5 hv5
                    obtain rfl := look hv5
                    refine L_nilCheck (rfl : _ = Value.pointer (some ⟨b, 0, none⟩)) (by decide) ?_
                    refine L_fieldAddr_var fld114_0 (rfl : _ = Value.pointer (some ⟨b, 0, none⟩)) (by decide) ?_
                    refine L_assign (rfl : _ = Value.pointer (some ⟨b, 0, none⟩)) (by decide) ?_
                    refine L_nil ?_
                    refine then_n ?_
                    refine W_seq ?_
                    refine W_seq ?_
                    refine W_region ?_
                    refine L_fieldAddr fldI0 Item.of_Kind hF.g10 hX (by decide) ?_
                    intro p2 hp2
                    refine L_load_int ty3 (rfl : _ = p2) hp2 (by decide) ?_
                    refine L_eql (rfl : _ = Value.int .i64 x.Kind) (rfl : _ = Value.int .i64 3) (by decide) ?_
                    refine L_nil ?_
                    refine then_n ?_
                    refine W_cond _ (rfl : _ = Value.bool (decide (x.Kind = 3))) (fun hb5 => ?_) (fun hb5 => ?_)
                    · refine W_region ?_
                      refine L_move hF.g5 (by decide) ?_
                      refine L_fieldAddr fldI1 Item.of_No hF.g10 hX (by decide) ?_
                      intro p3 hp3
                      refine L_load_int ty3 (rfl : _ = p3) hp3 (by decide) ?_
                      refine L_lookupX und107 Try.underlying3 zero111 (Vraw rfl : V s7 (.pointer none) (⟨.pointer none⟩ : RawV)) (rfl : _ = Value.map (some bm)) (rfl : _ = Value.int .i64 x.No) hJ7.obj.map (by decide) ?_
                      intro v6 hv6
                      obtain rfl := look hv6
                      refine L_nilCheck (rfl : _ = Value.pointer (some ⟨b, 0, none⟩)) (by decide) ?_
                      refine L_fieldAddr_var fld114_1 (rfl : _ = Value.pointer (some ⟨b, 0, none⟩)) (by decide) ?_
                      refine L_assign (rfl : _ = Value.pointer (some ⟨b, 1, none⟩)) (by decide) ?_
                      refine L_nil ?_
                      refine then_n ?_
                      rw [hb5] at ho3
                      refine W_seq ?_
                      refine W_seq ?_
                      refine W_region ?_
                      refine L_move (rfl : _ = Value.pointer (some ⟨b, 1, none⟩)) (by decide) ?_
                      refine L_nilCheck (rfl : _ = Value.pointer (some ⟨b, 1, none⟩)) (by decide) ?_
                      refine L_load_field ty112 Psg.of_recv (rfl : _ = Value.pointer (some ⟨b, 1, none⟩)) (hJ7.at_ hk7) (by decide) ?_
                      intro v7 hv7
                      obtain ⟨q7, rfl, hq7⟩ := hv7.nrefAt
                      refine L_neqNilP undp112 (rfl : _ = Value.pointer q7) hq7 (by decide) ?_
                      refine L_nil ?_
                      refine then_n ?_
                      refine W_cond _ (rfl : _ = Value.bool (!e.recv.x.isNone)) (fun hb6 => ?_) (fun hb6 => ?_)
                      · have ho3 := ite_t (b := e.recv.x.isSome) (by rw [← hb6]; cases e.recv.x <;> rfl) ho3
                        refine W_seq ?_
                        refine W_region ?_
                        refine L_assign (rfl : _ = Value.map none) (by decide) ?_
                        refine L_assign (rfl : _ = Value.slice none 0 0) (by decide) ?_
                        refine L_assign (rfl : _ = Value.int .i64 2) (by decide) ?_
                        refine L_nil ?_
                        refine then_n ?_
                        refine W_ret ?_
                        repeat first | refine then_r ?_ | refine block_r ?_
                        obtain rfl := Option.some.inj ho3
                        obtain rfl := Option.some.inj ho2
                        obtain rfl := Option.some.inj ho
                        obtain rfl := Option.some.inj hr
                        exact done3 (Or.inl rfl) Try.results52 rfl rfl rfl ⟨_, s7, rfl, rfl, hJ7.ext, psgR_err⟩
                      have ho3 := ite_f (b := e.recv.x.isSome) (by rw [← hb6]; cases e.recv.x <;> rfl) ho3
                      obtain ⟨c, hc, ho3⟩ := bind_some ho3
                      have hi := idx_some hc
                      have hlen := hJ7.arr.1
                      refine W_skip ?_
                      refine then_n ?_
                      refine W_region ?_
                      refine L_move (rfl : _ = Value.pointer (some ⟨b, 1, none⟩)) (by decide) ?_
                      refine L_move hF.g7 (by decide) ?_
                      refine L_move hF.g6 (by decide) ?_
                      refine L_move hF.g7 (by decide) ?_
                      refine L_indexA (sz := 1) Try.underlying40 ty3.inf (rfl : _ = Value.slice (some ⟨ba, 0, none⟩) a0.length a0.length) (rfl : _ = Value.int .i64 p) hi.1 (by omega) (by decide) ?_
                      refine L_loadA ty3 (rfl : _ = Value.pointer (some ⟨ba, p.toNat * 1, none⟩)) hJ7.arr hc (by decide) ?_
                      intro vc hvc
                      obtain rfl := hvc.int
                      refine L_bld117_0_1 (rfl : _ = Value.int .i64 p) (rfl : _ = Value.int .i64 c) (Vint (s := s7)) Vint (by decide) ?_
                      intro v8 hv8
                      refine L_box (rfl : _ = v8) hv8 (by decide) ?_
                      intro s8 p8 e8 hp8
                      refine L_nilCheck (rfl : _ = Value.pointer (some ⟨b, 1, none⟩)) (by decide) ?_
                      refine L_store_field ty112 Psg.set_recv (rfl : _ = Value.pointer (some ⟨b, 1, none⟩)) (rfl : _ = p8) hp8.toN ((hJ7.at_ hk7).ext e8) ?_
                      intro s9 t9 hv9
                      have hJ9 := (hJ7.more e8).set hk7 t9 hv9
                      refine L_nil ?_
                      obtain rfl := Option.some.inj ho3
                      refine block_n ?_
                      exact then_n ⟨s9, _, sv, rfl, hJ9, ((E6.le.trans l7).trans e8.le).trans t9.le, by rw [hm7]; rfl, hF.g5, hF.g6, hF.g7, hF.g30, hF.g31, hF.g32, hF.g37, hF.g38, hF.g39⟩
                    · refine W_skip ?_
                      refine then_n ?_
                      rw [hb5] at ho3
                      refine W_seq ?_
                      refine W_seq ?_
                      refine W_region ?_
                      refine L_move (rfl : _ = Value.pointer (some ⟨b, 0, none⟩)) (by decide) ?_
                      refine L_nilCheck (rfl : _ = Value.pointer (some ⟨b, 0, none⟩)) (by decide) ?_
                      refine L_load_field ty112 Psg.of_sent (rfl : _ = Value.pointer (some ⟨b, 0, none⟩)) (hJ7.at_ hk7) (by decide) ?_
                      intro v7 hv7
                      obtain ⟨q7, rfl, hq7⟩ := hv7.nrefAt
                      refine L_neqNilP undp112 (rfl : _ = Value.pointer q7) hq7 (by decide) ?_
                      refine L_nil ?_
                      refine then_n ?_
                      refine W_cond _ (rfl : _ = Value.bool (!e.sent.x.isNone)) (fun hb6 => ?_) (fun hb6 => ?_)
                      · have ho3 := ite_t (b := e.sent.x.isSome) (by rw [← hb6]; cases e.sent.x <;> rfl) ho3
                        refine W_seq ?_
                        refine W_region ?_
                        refine L_assign (rfl : _ = Value.map none) (by decide) ?_
                        refine L_assign (rfl : _ = Value.slice none 0 0) (by decide) ?_
                        refine L_assign (rfl : _ = Value.int .i64 2) (by decide) ?_
                        refine L_nil ?_
                        refine then_n ?_
                        refine W_ret ?_
                        repeat first | refine then_r ?_ | refine block_r ?_
                        obtain rfl := Option.some.inj ho3
                        obtain rfl := Option.some.inj ho2
                        obtain rfl := Option.some.inj ho
                        obtain rfl := Option.some.inj hr
                        exact done3 (Or.inl rfl) Try.results52 rfl rfl rfl ⟨_, s7, rfl, rfl, hJ7.ext, psgR_err⟩
                      have ho3 := ite_f (b := e.sent.x.isSome) (by rw [← hb6]; cases e.sent.x <;> rfl) ho3
                      obtain ⟨c, hc, ho3⟩ := bind_some ho3
                      have hi := idx_some hc
                      have hlen := hJ7.arr.1
                      refine W_skip ?_
                      refine then_n ?_
                      refine W_region ?_
                      refine L_move (rfl : _ = Value.pointer (some ⟨b, 0, none⟩)) (by decide) ?_
                      refine L_move hF.g7 (by decide) ?_
                      refine L_move hF.g6 (by decide) ?_
                      refine L_move hF.g7 (by decide) ?_
                      refine L_indexA (sz := 1) Try.underlying40 ty3.inf (rfl : _ = Value.slice (some ⟨ba, 0, none⟩) a0.length a0.length) (rfl : _ = Value.int .i64 p) hi.1 (by omega) (by decide) ?_
                      refine L_loadA ty3 (rfl : _ = Value.pointer (some ⟨ba, p.toNat * 1, none⟩)) hJ7.arr hc (by decide) ?_
                      intro vc hvc
                      obtain rfl := hvc.int
                      refine L_bld117_0_1 (rfl : _ = Value.int .i64 p) (rfl : _ = Value.int .i64 c) (Vint (s := s7)) Vint (by decide) ?_
                      intro v8 hv8
                      refine L_box (rfl : _ = v8) hv8 (by decide) ?_
                      intro s8 p8 e8 hp8
                      refine L_nilCheck (rfl : _ = Value.pointer (some ⟨b, 0, none⟩)) (by decide) ?_
                      refine L_store_field ty112 Psg.set_sent (rfl : _ = Value.pointer (some ⟨b, 0, none⟩)) (rfl : _ = p8) hp8.toN ((hJ7.at_ hk7).ext e8) ?_
                      intro s9 t9 hv9
                      have hJ9 := (hJ7.more e8).set hk7 t9 hv9
                      refine L_nil ?_
                      obtain rfl := Option.some.inj ho3
                      refine block_n ?_
                      exact then_n ⟨s9, _, sv, rfl, hJ9, ((E6.le.trans l7).trans e8.le).trans t9.le, by rw [hm7]; rfl, hF.g5, hF.g6, hF.g7, hF.g30, hF.g31, hF.g32, hF.g37, hF.g38, hF.g39⟩
                  · rintro f w ⟨s5, os, sv, rfl, hJ, l5, rfl, g5, g6, g7, g30, g31, g32, g37, g38, g39⟩
                    obtain ⟨hc, ho2⟩ := chk_some ho2
                    refine W_region ?_
                    refine L_add g39 (rfl : _ = Value.int .i64 1) hc (by decide) ?_
                    refine L_move (rfl : _ = Value.int .i64 (i + 1)) (by decide) ?_
                    refine L_nil ?_
                    exact then_n ⟨m, Nat.lt_succ_self _, s5, os, sv, i + 1, rfl, hJ, l4.trans l5, ho2, g5, g6, g7, g30, g31, g32, g37, g38, rfl⟩
                · have ho2 := ite_f hb2 ho2
                  obtain rfl := Option.some.inj ho2
                  refine W_exit ?_
                  refine then_x ?_
                  refine then_x ?_
                  refine block_here ?_
                  refine block_n ?_
                  exact then_n ⟨s4, os, sv, rfl, hJ, rfl, g5, g6, g30, g31, g32⟩
            · rintro f w ⟨s4, os, sv, rfl, hJ, rfl, g5, g6, g30, g31, g32⟩
              obtain ⟨hc, ho⟩ := chk_some ho
              refine W_region ?_
              refine L_add g32 (rfl : _ = Value.int .i64 1) hc (by decide) ?_
              refine L_move (rfl : _ = Value.int .i64 (p + 1)) (by decide) ?_
              refine L_nil ?_
              exact then_n ⟨m, Nat.lt_succ_self _, s4, os, sv, p + 1, rfl, hJ, ho, g5, g6, g30, g31, rfl⟩
          · have ho := ite_f hb ho
            obtain rfl := Option.some.inj ho
            refine W_exit ?_
            refine then_x ?_
            refine then_x ?_
            refine block_here ?_
            exact then_n ⟨s3, os, sv, rfl, hJ, rfl, g5, g6⟩
      · rintro f w ⟨s3, os, sv, rfl, hJ, rfl, g5, g6⟩
        have hms : (os.map toP).map (fun e => (e.1, (⟨e.2⟩ : Ref Psg))) = os.map fun e => (e.1, (⟨e.2.2⟩ : Ref Psg)) := by rw [List.map_map]; rfl
        obtain ⟨s4, e4, t4, hM⟩ := hJ.obj.freeze
        obtain ⟨s5, e5, t5, hV⟩ := (hJ.arr.tch t4 hJ.na).freeze
        have E5 : Ext s0 s5 := extW (extW hJ.ext t4 (fun k hk => hJ.low hk)) t5 (fun k hk => hk ▸ hJ.ba0)
        have hM := hM.mono t5.le
        generalize hmd : (os.map fun e => (e.1, (⟨e.2.2⟩ : Ref Psg))) = ms at *
        rw [← e5.trans e4]
        clear e5 e4 t4 t5
        have hbad : ∀ kv, kv ∈ ms → badP kv.2.x = true → some (([], [], (2 : Int)) : List (Int × Psg) × List Int × Int) = some r := fun kv hkv hb => by
          rw [← hms] at hkv
          obtain ⟨e, he, rfl⟩ := List.mem_map.1 hkv
          exact ite_t (b := (os.map toP).any fun e => badP e.2) (List.any_eq_true.2 ⟨e, he, hb⟩) hr
        refine W_seq_cut (fun f w => ∃ s : St, s.w = w ∧ Ext s5 s ∧ (∀ e, e ∈ ms → badP e.2.x = false) ∧ f 5 = Value.map (some bm) ∧ f 6 = Value.slice (some ⟨ba, 0, none⟩) a0.length a0.length) ?_ ?_
        · refine W_seq ?_
          refine W_region ?_
          refine L_move g5 (by decide) ?_
          refine L_range und107 (rfl : _ = Value.map (some bm)) hM (by decide) ?_
          intro s6 it e6 hit hI
          refine L_nil ?_
          refine then_n ?_
          refine W_block ?_
          refine W_loop (fun m f w => ∃ (s : St) (R : List (Int × Ref Psg)), s.w = w ∧ Ext s5 s ∧ Iter s it R ∧ R.length = m ∧ (∀ e, e ∈ R → e ∈ ms) ∧ (∀ e, e ∈ ms → e ∈ R ∨ badP e.2.x = false) ∧ f 5 = Value.map (some bm) ∧ f 6 = Value.slice (some ⟨ba, 0, none⟩) a0.length a0.length ∧ f 111 = Value.pointer (some ⟨it, 0, none⟩)) ms.length ⟨s6, ms, rfl, e6, hI, rfl, fun _ h => h, fun _ h => .inl h, g5, g6, rfl⟩ ?_
          clear hI g5 g6
          rintro m f w ⟨s7, R, rfl, e7, hI, hm, hR1, hR2, g5, g6, g111⟩
          refine W_seq ?_
          refine W_region ?_
          refine L_next g111 hI (by decide) (fun hR => ?_) (fun kv R' s8 u hP t8 hA => ?_)
          · refine L_extract (rfl : _ = Value.tuple #[.bool false]) (k := 0) rfl (by decide) ?_
            refine L_nil ?_
            refine then_n ?_
            refine W_seq ?_
            refine W_cond false rfl (fun h => by cases h) (fun _ => ?_)
            refine W_exit ?_
            refine then_x ?_
            refine then_x ?_
            refine block_here ?_
            exact then_n ⟨s7, rfl, e7, fun e he => (hR2 e he).resolve_left (by rw [hR]; exact List.not_mem_nil), g5, g6⟩
          · have e8 : Ext s5 s8 := extW e7 t8 (fun k hk => hk ▸ hit)
            have hkv : kv ∈ R := hP.mem_iff.2 (List.mem_cons_self ..)
            refine L_extract (rfl : _ = Value.tuple #[.bool true, .int .i64 kv.1, u]) (k := 0) rfl (by decide) ?_
            refine L_nil ?_
            refine then_n ?_
            refine W_seq ?_
            refine W_cond true rfl (fun _ => ?_) (fun h => by cases h)
            refine W_skip ?_
            refine then_n ?_
            refine W_block ?_
            refine W_seq ?_
            refine W_region ?_
            refine L_entry g111 hA (by decide) ?_
            intro v hv
            refine L_extract (rfl : _ = Value.tuple #[.int .i64 kv.1, v]) (k := 1) rfl (by decide) ?_
            refine L_assign (rfl : _ = v) (by decide) ?_
            refine L_nil ?_
            refine then_n ?_
            have hp := (hv.toPtr).mono (Ext.drew s8).le
            refine W_seq_cut (fun f w => w = s8.drew.w ∧ f 144 = Value.bool (badP kv.2.x) ∧ f 5 = Value.map (some bm) ∧ f 6 = Value.slice (some ⟨ba, 0, none⟩) a0.length a0.length ∧ f 111 = Value.pointer (some ⟨it, 0, none⟩)) ?_ ?_
            · refine W_seqd (s := s8) [0, 1, 2, 3, 4, 5, 6, 7, 8, 9, 10, 11, 12, 13, 14, 15, 16, 17, 18, 19, 20, 21, 22, 23, 24, 25, 26, 27, 28] mixed (by kernel_rfl) rfl ?_
              refine L_move (rfl : _ = v) (by decide) ?_
              refine L_nilCheck_ptr (rfl : _ = v) hp (by decide) ?_
              refine L_fieldAddr fld114_1 Psg.of_recv (rfl : _ = v) hp (by decide) ?_
              intro p1 hp1
              refine L_load ty112 (rfl : _ = p1) hp1 (by decide) ?_
              intro v1 hv1
              obtain ⟨q1, rfl, hq1⟩ := hv1.nrefAt
              refine L_neqNilP undp112 (rfl : _ = Value.pointer q1) hq1 (by decide) ?_
              refine L_move (rfl : _ = Value.bool (!kv.2.x.recv.x.isNone)) (by decide) ?_
              obtain ⟨o1, ho1⟩ : ∃ o, o = kv.2.x.recv.x := ⟨_, rfl⟩
              cases o1 with
              | none =>
                have hrc := ho1.symm
                refine L_gf (e := 121) (by rfl) (by decide) (rfl : _ = Value.bool (!kv.2.x.recv.x.isNone)) (by rw [hrc]; rfl) (by decide) ?_
                refine L_gf (e := 121) (by rfl) (by decide) (rfl : _ = Value.bool (!kv.2.x.recv.x.isNone)) (by rw [hrc]; rfl) (by decide) ?_
                refine L_gf (e := 121) (by rfl) (by decide) (rfl : _ = Value.bool (!kv.2.x.recv.x.isNone)) (by rw [hrc]; rfl) (by decide) ?_
                refine L_gf (e := 121) (by rfl) (by decide) (rfl : _ = Value.bool (!kv.2.x.recv.x.isNone)) (by rw [hrc]; rfl) (by decide) ?_
                refine L_gf (e := 121) (by rfl) (by decide) (rfl : _ = Value.bool (!kv.2.x.recv.x.isNone)) (by rw [hrc]; rfl) (by decide) ?_
                refine L_gf (e := 121) (by rfl) (by decide) (rfl : _ = Value.bool (!kv.2.x.recv.x.isNone)) (by rw [hrc]; rfl) (by decide) ?_
                refine L_gu (e := 127) (by rfl) rfl (by decide) ?_
                refine L_gu (e := 127) (by rfl) rfl (by decide) ?_
                refine L_gu (e := 127) (by rfl) rfl (by decide) ?_
                refine L_gu (e := 127) (by rfl) rfl (by decide) ?_
                refine L_gu (e := 127) (by rfl) rfl (by decide) ?_
                refine L_gu (e := 127) (by rfl) rfl (by decide) ?_
                refine L_gu (e := 127) (by rfl) rfl (by decide) ?_
                refine L_gu (e := 127) (by rfl) rfl (by decide) ?_
                refine L_gu (e := 127) (by rfl) rfl (by decide) ?_
                refine L_gu (e := 127) (by rfl) rfl (by decide) ?_
                refine L_gu (e := 127) (by rfl) rfl (by decide) ?_
                refine L_gu (e := 127) (by rfl) rfl (by decide) ?_
                refine L_gu (e := 127) (by rfl) rfl (by decide) ?_
                refine L_gu (e := 127) (by rfl) rfl (by decide) ?_
                refine L_gu (e := 127) (by rfl) rfl (by decide) ?_
                refine L_gf (e := 121) (by rfl) (by decide) (rfl : _ = Value.bool (!kv.2.x.recv.x.isNone)) (by rw [hrc]; rfl) (by decide) ?_
                refine L_pick_f (rfl : _ = Value.bool (!kv.2.x.recv.x.isNone)) (by rw [hrc]; rfl) (rfl : _ = Value.bool false) (by decide) ?_
                refine L_nil ⟨rfl, ?_⟩
                exact then_n ⟨rfl, by unfold badP; rw [hrc]; rfl, g5, g6, g111⟩
              | some rc =>
                have hrc := ho1.symm
                refine L_gt (e := 121) (by rfl) (by decide) (rfl : _ = Value.bool (!kv.2.x.recv.x.isNone)) (by rw [hrc]; rfl) ?_
                refine L_move (rfl : _ = v) (by decide) ?_
                refine L_gt (e := 121) (by rfl) (by decide) (rfl : _ = Value.bool (!kv.2.x.recv.x.isNone)) (by rw [hrc]; rfl) ?_
                refine L_nilCheck_ptr (rfl : _ = v) hp (by decide) ?_
                refine L_gt (e := 121) (by rfl) (by decide) (rfl : _ = Value.bool (!kv.2.x.recv.x.isNone)) (by rw [hrc]; rfl) ?_
                refine L_fieldAddr fld114_0 Psg.of_sent (rfl : _ = v) hp (by decide) ?_
                intro p2 hp2
                refine L_gt (e := 121) (by rfl) (by decide) (rfl : _ = Value.bool (!kv.2.x.recv.x.isNone)) (by rw [hrc]; rfl) ?_
                refine L_load ty112 (rfl : _ = p2) hp2 (by decide) ?_
                intro v2 hv2
                obtain ⟨q2, rfl, hq2⟩ := hv2.nrefAt
                refine L_gt (e := 121) (by rfl) (by decide) (rfl : _ = Value.bool (!kv.2.x.recv.x.isNone)) (by rw [hrc]; rfl) ?_
                refine L_eqlNil undp112 (rfl : _ = Value.pointer q2) hq2 (by decide) ?_
                refine L_gt (e := 121) (by rfl) (by decide) (rfl : _ = Value.bool (!kv.2.x.recv.x.isNone)) (by rw [hrc]; rfl) ?_
                refine L_move (rfl : _ = Value.bool kv.2.x.sent.x.isNone) (by decide) ?_
                obtain ⟨o2, ho2⟩ : ∃ o, o = kv.2.x.sent.x := ⟨_, rfl⟩
                cases o2 with
                | none =>
                  have hst := ho2.symm
                  refine L_gf (e := 127) (by rfl) (by decide) (rfl : _ = Value.bool kv.2.x.sent.x.isNone) (by rw [hst]; rfl) (by decide) ?_
                  refine L_gf (e := 127) (by rfl) (by decide) (rfl : _ = Value.bool kv.2.x.sent.x.isNone) (by rw [hst]; rfl) (by decide) ?_
                  refine L_gf (e := 127) (by rfl) (by decide) (rfl : _ = Value.bool kv.2.x.sent.x.isNone) (by rw [hst]; rfl) (by decide) ?_
                  refine L_gf (e := 127) (by rfl) (by decide) (rfl : _ = Value.bool kv.2.x.sent.x.isNone) (by rw [hst]; rfl) (by decide) ?_
                  refine L_gf (e := 127) (by rfl) (by decide) (rfl : _ = Value.bool kv.2.x.sent.x.isNone) (by rw [hst]; rfl) (by decide) ?_
                  refine L_gf (e := 127) (by rfl) (by decide) (rfl : _ = Value.bool kv.2.x.sent.x.isNone) (by rw [hst]; rfl) (by decide) ?_
                  refine L_gf (e := 127) (by rfl) (by decide) (rfl : _ = Value.bool kv.2.x.sent.x.isNone) (by rw [hst]; rfl) (by decide) ?_
                  refine L_gf (e := 127) (by rfl) (by decide) (rfl : _ = Value.bool kv.2.x.sent.x.isNone) (by rw [hst]; rfl) (by decide) ?_
                  refine L_gf (e := 127) (by rfl) (by decide) (rfl : _ = Value.bool kv.2.x.sent.x.isNone) (by rw [hst]; rfl) (by decide) ?_
                  refine L_gf (e := 127) (by rfl) (by decide) (rfl : _ = Value.bool kv.2.x.sent.x.isNone) (by rw [hst]; rfl) (by decide) ?_
                  refine L_gf (e := 127) (by rfl) (by decide) (rfl : _ = Value.bool kv.2.x.sent.x.isNone) (by rw [hst]; rfl) (by decide) ?_
                  refine L_gf (e := 127) (by rfl) (by decide) (rfl : _ = Value.bool kv.2.x.sent.x.isNone) (by rw [hst]; rfl) (by decide) ?_
                  refine L_gf (e := 127) (by rfl) (by decide) (rfl : _ = Value.bool kv.2.x.sent.x.isNone) (by rw [hst]; rfl) (by decide) ?_
                  refine L_gf (e := 127) (by rfl) (by decide) (rfl : _ = Value.bool kv.2.x.sent.x.isNone) (by rw [hst]; rfl) (by decide) ?_
                  refine L_gf (e := 127) (by rfl) (by decide) (rfl : _ = Value.bool kv.2.x.sent.x.isNone) (by rw [hst]; rfl) (by decide) ?_
                  refine L_gt (e := 121) (by rfl) (by decide) (rfl : _ = Value.bool (!kv.2.x.recv.x.isNone)) (by rw [hrc]; rfl) ?_
                  refine L_pick_t (rfl : _ = Value.bool kv.2.x.sent.x.isNone) (by rw [hst]; rfl) (rfl : _ = Value.bool true) (by decide) ?_
                  refine L_pick_t (rfl : _ = Value.bool (!kv.2.x.recv.x.isNone)) (by rw [hrc]; rfl) (rfl : _ = Value.bool true) (by decide) ?_
                  refine L_nil ⟨rfl, ?_⟩
                  exact then_n ⟨rfl, by unfold badP; rw [hrc, hst]; rfl, g5, g6, g111⟩
                | some sc =>
                  have hst := ho2.symm
                  refine L_gt (e := 127) (by rfl) (by decide) (rfl : _ = Value.bool kv.2.x.sent.x.isNone) (by rw [hst]; rfl) ?_
                  refine L_move (rfl : _ = v) (by decide) ?_
                  refine L_gt (e := 127) (by rfl) (by decide) (rfl : _ = Value.bool kv.2.x.sent.x.isNone) (by rw [hst]; rfl) ?_
                  refine L_nilCheck_ptr (rfl : _ = v) hp (by decide) ?_
                  refine L_gt (e := 127) (by rfl) (by decide) (rfl : _ = Value.bool kv.2.x.sent.x.isNone) (by rw [hst]; rfl) ?_
                  refine L_fieldAddr fld114_0 Psg.of_sent (rfl : _ = v) hp (by decide) ?_
                  intro p3 hp3
                  refine L_gt (e := 127) (by rfl) (by decide) (rfl : _ = Value.bool kv.2.x.sent.x.isNone) (by rw [hst]; rfl) ?_
                  refine L_load ty112 (rfl : _ = p3) hp3 (by decide) ?_
                  intro v3 hv3
                  rcases hv3.nref with ⟨hn, _⟩ | ⟨a3, ha3, hv3⟩
                  · rw [hst] at hn; cases hn
                  rw [hst] at ha3
                  cases ha3
                  refine L_gt (e := 127) (by rfl) (by decide) (rfl : _ = Value.bool kv.2.x.sent.x.isNone) (by rw [hst]; rfl) ?_
                  refine L_nilCheck_ptr (rfl : _ = v3) hv3 (by decide) ?_
                  refine L_gt (e := 127) (by rfl) (by decide) (rfl : _ = Value.bool kv.2.x.sent.x.isNone) (by rw [hst]; rfl) ?_
                  refine L_fieldAddr fld117_0 Spot.of_proc (rfl : _ = v3) hv3 (by decide) ?_
                  intro p4 hp4
                  refine L_gt (e := 127) (by rfl) (by decide) (rfl : _ = Value.bool kv.2.x.sent.x.isNone) (by rw [hst]; rfl) ?_
                  refine L_load_int ty3 (rfl : _ = p4) hp4 (by decide) ?_
                  refine L_gt (e := 127) (by rfl) (by decide) (rfl : _ = Value.bool kv.2.x.sent.x.isNone) (by rw [hst]; rfl) ?_
                  refine L_move (rfl : _ = v) (by decide) ?_
                  refine L_gt (e := 127) (by rfl) (by decide) (rfl : _ = Value.bool kv.2.x.sent.x.isNone) (by rw [hst]; rfl) ?_
                  refine L_nilCheck_ptr (rfl : _ = v) hp (by decide) ?_
                  refine L_gt (e := 127) (by rfl) (by decide) (rfl : _ = Value.bool kv.2.x.sent.x.isNone) (by rw [hst]; rfl) ?_
                  refine L_fieldAddr fld114_1 Psg.of_recv (rfl : _ = v) hp (by decide) ?_
                  intro p5 hp5
                  refine L_gt (e := 127) (by rfl) (by decide) (rfl : _ = Value.bool kv.2.x.sent.x.isNone) (by rw [hst]; rfl) ?_
                  refine L_load ty112 (rfl : _ = p5) hp5 (by decide) ?_
                  intro v5 hv5
                  rcases hv5.nref with ⟨hn, _⟩ | ⟨a5, ha5, hv5⟩
                  · rw [hrc] at hn; cases hn
                  rw [hrc] at ha5
                  cases ha5
                  refine L_gt (e := 127) (by rfl) (by decide) (rfl : _ = Value.bool kv.2.x.sent.x.isNone) (by rw [hst]; rfl) ?_
                  refine L_nilCheck_ptr (rfl : _ = v5) hv5 (by decide) ?_
                  refine L_gt (e := 127) (by rfl) (by decide) (rfl : _ = Value.bool kv.2.x.sent.x.isNone) (by rw [hst]; rfl) ?_
                  refine L_fieldAddr fld117_0 Spot.of_proc (rfl : _ = v5) hv5 (by decide) ?_
                  intro p6 hp6
                  refine L_gt (e := 127) (by rfl) (by decide) (rfl : _ = Value.bool kv.2.x.sent.x.isNone) (by rw [hst]; rfl) ?_
                  refine L_load_int ty3 (rfl : _ = p6) hp6 (by decide) ?_
                  refine L_gt (e := 127) (by rfl) (by decide) (rfl : _ = Value.bool kv.2.x.sent.x.isNone) (by rw [hst]; rfl) ?_
                  refine L_eql (rfl : _ = Value.int .i64 sc.proc) (rfl : _ = Value.int .i64 rc.proc) (by decide) ?_
                  refine L_gt (e := 121) (by rfl) (by decide) (rfl : _ = Value.bool (!kv.2.x.recv.x.isNone)) (by rw [hrc]; rfl) ?_
                  refine L_pick_f (rfl : _ = Value.bool kv.2.x.sent.x.isNone) (by rw [hst]; rfl) (rfl : _ = Value.bool (decide (sc.proc = rc.proc))) (by decide) ?_
                  refine L_pick_t (rfl : _ = Value.bool (!kv.2.x.recv.x.isNone)) (by rw [hrc]; rfl) (rfl : _ = Value.bool (decide (sc.proc = rc.proc))) (by decide) ?_
                  refine L_nil ⟨rfl, ?_⟩
                  exact then_n ⟨rfl, by unfold badP; rw [hrc, hst]; rfl, g5, g6, g111⟩
            clear g5 g6 g111
            rintro f w ⟨rfl, g144, g5, g6, g111⟩
            refine W_cond _ g144 (fun hb => ?_) (fun hb => ?_)
            · refine W_seq ?_
              refine W_region ?_
              refine L_assign (rfl : _ = Value.map none) (by decide) ?_
              refine L_assign (rfl : _ = Value.slice none 0 0) (by decide) ?_
              refine L_assign (rfl : _ = Value.int .i64 2) (by decide) ?_
              refine L_nil ?_
              refine then_n ?_
              refine W_ret ?_
              repeat first | refine then_r ?_ | refine block_r ?_
              obtain rfl := Option.some.inj (hbad kv (hR1 kv hkv) hb)
              exact done3 (Or.inl rfl) Try.results52 rfl rfl rfl ⟨_, s8.drew, rfl, rfl, (E5.trans e8).trans (Ext.drew s8), psgR_err⟩
            · refine W_skip ?_
              refine block_n ?_
              have hlen := hP.length_eq
              refine then_n ⟨R'.length, by rw [← hm, hlen]; exact Nat.lt_succ_self _, s8.drew, R', rfl, e8.trans (Ext.drew s8), hA.iter.ext (Ext.drew s8), rfl, fun e he => hR1 e (hP.mem_iff.2 (List.mem_cons_of_mem _ he)), fun e he => ?_, g5, g6, g111⟩
              rcases hR2 e he with h | h
              · rcases List.mem_cons.1 (hP.mem_iff.1 h) with rfl | h
                · exact .inr hb
                · exact .inl h
              · exact .inr h
        · rintro f w ⟨s6, rfl, e6, hgood, g5, g6⟩
          have hall : ((os.map toP).any fun e => badP e.2) = false := by
            rw [List.any_eq_false]
            intro e he
            have := hgood (e.1, ⟨e.2⟩) (by rw [← hms]; exact List.mem_map.2 ⟨e, he, rfl⟩)
            simpa using this
          have hr := ite_f hall hr
          obtain rfl := Option.some.inj hr
          refine W_seq ?_
          refine W_region ?_
          refine L_move g5 (by decide) ?_
          refine L_move g6 (by decide) ?_
          refine L_assign (rfl : _ = Value.map (some bm)) (by decide) ?_
          refine L_assign (rfl : _ = Value.slice (some ⟨ba, 0, none⟩) a0.length a0.length) (by decide) ?_
          refine L_assign (rfl : _ = Value.int .i64 0) (by decide) ?_
          refine L_nil ?_
          refine then_n ?_
          refine W_ret ?_
          exact done3 (Or.inl rfl) Try.results52 rfl rfl rfl ⟨_, s6, rfl, rfl, E5.trans e6, _, _, _, rfl, by rw [hms]; exact (hM.mono e6.le).toV, hV.mono e6.le, Vint⟩

end Go.Arm
namespace Go.Arm
open Go Go.RowKit Go.Proofs

/-- Whether something is before the state of its process in a line. -/
def bef (o : Option Spot) (line : List Int) : Bool := match o with
  | none => false
  | some sp => match idx line sp.proc with
    | none => false
    | some c => decide (sp.saved < c)
def OkS (n : Nat) (o : Option Spot) : Prop := ∀ sp, o = some sp → 0 ≤ sp.proc ∧ sp.proc < n ∧ 0 ≤ sp.saved
theorem okS_idx {line : List Int} {sp : Spot} (h : OkS line.length (some sp)) : ∃ c, idx line sp.proc = some c := by
  obtain ⟨h1, h2, _⟩ := h sp rfl
  unfold idx
  rw [if_pos h1]
  exact ⟨_, List.getElem?_eq_getElem (by omega)⟩
theorem before_ok (s0 : St) (v : Value) (r : NRef Spot) (hv : V s0 v r) (w1 : Value) (line : List Int) (h1 : V s0 w1 line) (hok : OkS line.length r.x) :
    Calls Try.prog 54 #[v, w1] s0.w (Ret s0 fun v s => V s v (bef r.x line)) := by
  obtain ⟨q, hvq, hq⟩ := hv.nrefAt
  refine Calls_of (n := 21) (args := [v, w1]) Try.func54 rfl rfl (by simp) ?_
  refine W_seq ?_
  refine W_region ?_
  refine L_assign (rfl : _ = Value.bool false) (by decide) ?_
  refine L_nil ?_
  refine then_n ?_
  refine W_seq ?_
  refine W_seqd (s := s0) [0, 1, 2, 3, 4, 5, 6, 7, 8, 9, 10, 11, 12, 13, 14, 15, 16] mixed (by kernel_rfl) rfl ?_
  refine L_move (rfl : _ = v) (by decide) ?_
  refine L_neqNilP undp112 hvq hq (by decide) ?_
  refine L_move (rfl : _ = Value.bool (!r.x.isNone)) (by decide) ?_
  obtain ⟨o1, ho1⟩ : ∃ o, o = r.x := ⟨_, rfl⟩
  cases o1 with
  | none =>
    have hrc := ho1.symm
    refine L_gf (e := 7) (by rfl) (by decide) (rfl : _ = Value.bool (!r.x.isNone)) (by rw [hrc]; rfl) (by decide) ?_
    refine L_gf (e := 7) (by rfl) (by decide) (rfl : _ = Value.bool (!r.x.isNone)) (by rw [hrc]; rfl) (by decide) ?_
    refine L_gf (e := 7) (by rfl) (by decide) (rfl : _ = Value.bool (!r.x.isNone)) (by rw [hrc]; rfl) (by decide) ?_
    refine L_gf (e := 7) (by rfl) (by decide) (rfl : _ = Value.bool (!r.x.isNone)) (by rw [hrc]; rfl) (by decide) ?_
    refine L_gf (e := 7) (by rfl) (by decide) (rfl : _ = Value.bool (!r.x.isNone)) (by rw [hrc]; rfl) (by decide) ?_
    refine L_gf (e := 7) (by rfl) (by decide) (rfl : _ = Value.bool (!r.x.isNone)) (by rw [hrc]; rfl) (by decide) ?_
    refine L_gf (e := 7) (by rfl) (by decide) (rfl : _ = Value.bool (!r.x.isNone)) (by rw [hrc]; rfl) (by decide) ?_
    refine L_gf (e := 7) (by rfl) (by decide) (rfl : _ = Value.bool (!r.x.isNone)) (by rw [hrc]; rfl) (by decide) ?_
    refine L_gf (e := 7) (by rfl) (by decide) (rfl : _ = Value.bool (!r.x.isNone)) (by rw [hrc]; rfl) (by decide) ?_
    refine L_gf (e := 7) (by rfl) (by decide) (rfl : _ = Value.bool (!r.x.isNone)) (by rw [hrc]; rfl) (by decide) ?_
    refine L_gf (e := 7) (by rfl) (by decide) (rfl : _ = Value.bool (!r.x.isNone)) (by rw [hrc]; rfl) (by decide) ?_
    refine L_gf (e := 7) (by rfl) (by decide) (rfl : _ = Value.bool (!r.x.isNone)) (by rw [hrc]; rfl) (by decide) ?_
    refine L_pick_f (rfl : _ = Value.bool (!r.x.isNone)) (by rw [hrc]; rfl) (rfl : _ = Value.bool false) (by decide) ?_
    refine L_assign (rfl : _ = Value.bool false) (by decide) ?_
    refine L_nil ⟨rfl, ?_⟩
    refine then_n ?_
    refine W_ret ?_
    exact done1 (Or.inl rfl) Try.results54 rfl ⟨_, s0.drew, rfl, rfl, Ext.drew s0, by rw [hrc]; exact Vbool⟩
  | some sp =>
    have hrc := ho1.symm
    rw [hrc] at hok
    obtain ⟨c, hc⟩ := okS_idx hok
    have lD := (Ext.drew s0).le
    have hbe : bef (some sp) line = decide (sp.saved < c) := by unfold bef; simp only [hc]
    obtain ⟨hp, h2⟩ : Ptr s0.drew v sp ∧ V s0.drew w1 line := by
      rcases hv.nref with ⟨hn, _⟩ | ⟨a, ha, hp⟩
      · rw [hrc] at hn; cases hn
      · rw [hrc] at ha; cases ha; exact ⟨hp.mono lD, h1.mono lD⟩
    refine L_gt (e := 7) (by rfl) (by decide) (rfl : _ = Value.bool (!r.x.isNone)) (by rw [hrc]; rfl) ?_
    refine L_move (rfl : _ = v) (by decide) ?_
    refine L_gt (e := 7) (by rfl) (by decide) (rfl : _ = Value.bool (!r.x.isNone)) (by rw [hrc]; rfl) ?_
    refine L_nilCheck_ptr (rfl : _ = v) hp (by decide) ?_
    refine L_gt (e := 7) (by rfl) (by decide) (rfl : _ = Value.bool (!r.x.isNone)) (by rw [hrc]; rfl) ?_
    refine L_fieldAddr fld117_1 Spot.of_saved (rfl : _ = v) hp (by decide) ?_
    intro p1 hp1
    refine L_gt (e := 7) (by rfl) (by decide) (rfl : _ = Value.bool (!r.x.isNone)) (by rw [hrc]; rfl) ?_
    refine L_load_int ty3 (rfl : _ = p1) hp1 (by decide) ?_
    refine L_gt (e := 7) (by rfl) (by decide) (rfl : _ = Value.bool (!r.x.isNone)) (by rw [hrc]; rfl) ?_
    refine L_move (rfl : _ = w1) (by decide) ?_
    refine L_gt (e := 7) (by rfl) (by decide) (rfl : _ = Value.bool (!r.x.isNone)) (by rw [hrc]; rfl) ?_
    refine L_move (rfl : _ = v) (by decide) ?_
    refine L_gt (e := 7) (by rfl) (by decide) (rfl : _ = Value.bool (!r.x.isNone)) (by rw [hrc]; rfl) ?_
    refine L_nilCheck_ptr (rfl : _ = v) hp (by decide) ?_
    refine L_gt (e := 7) (by rfl) (by decide) (rfl : _ = Value.bool (!r.x.isNone)) (by rw [hrc]; rfl) ?_
    refine L_fieldAddr fld117_0 Spot.of_proc (rfl : _ = v) hp (by decide) ?_
    intro p2 hp2
    refine L_gt (e := 7) (by rfl) (by decide) (rfl : _ = Value.bool (!r.x.isNone)) (by rw [hrc]; rfl) ?_
    refine L_load_int ty3 (rfl : _ = p2) hp2 (by decide) ?_
    refine L_gt (e := 7) (by rfl) (by decide) (rfl : _ = Value.bool (!r.x.isNone)) (by rw [hrc]; rfl) ?_
    refine L_index Try.underlying40 ty3.inf (rfl : _ = w1) h2 (rfl : _ = Value.int .i64 sp.proc) hc (by decide) ?_
    intro p3 hp3
    refine L_gt (e := 7) (by rfl) (by decide) (rfl : _ = Value.bool (!r.x.isNone)) (by rw [hrc]; rfl) ?_
    refine L_load_int ty3 (rfl : _ = p3) hp3 (by decide) ?_
    refine L_gt (e := 7) (by rfl) (by decide) (rfl : _ = Value.bool (!r.x.isNone)) (by rw [hrc]; rfl) ?_
    refine L_lss (rfl : _ = Value.int .i64 sp.saved) (rfl : _ = Value.int .i64 c) (by decide) ?_
    refine L_pick_t (rfl : _ = Value.bool (!r.x.isNone)) (by rw [hrc]; rfl) (rfl : _ = Value.bool (decide (sp.saved < c))) (by decide) ?_
    refine L_assign (rfl : _ = Value.bool (decide (sp.saved < c))) (by decide) ?_
    refine L_nil ⟨rfl, ?_⟩
    refine then_n ?_
    refine W_ret ?_
    exact done1 (Or.inl rfl) Try.results54 rfl ⟨_, s0.drew, rfl, rfl, Ext.drew s0, by rw [hrc, hbe]; exact Vbool⟩

end Go.Arm
namespace Go.Arm
open Go Go.RowKit Go.Proofs Go.Shelf Go.Sort

def sortRen : Ren := ⟨fun | 189 => 55 | 125 => 85 | 257 => 84 | 128 => 102 | 129 => 103 | 294 => 93 | 295 => 94 | 296 => 95 | 297 => 96 | 298 => 97 | 299 => 98 | 216 => 99 | 300 => 100 | 301 => 101 | 328 => 106 | 329 => 107 | 330 => 108 | 331 => 109 | 332 => 110 | 215 => 111 | 343 => 112 | n => n, fun | 28 => 40 | 3 => 3 | 46 => 96 | 0 => 0 | 51 => 193 | 53 => 163 | 4 => 4 | 183 => 185 | 182 => 184 | 131 => 190 | 5 => 5 | 9 => 9 | 218 => 198 | 222 => 202 | 228 => 204 | 229 => 205 | n => n, fun n => n⟩
theorem sortLays : Lays.n189 Try.prog sortRen where
  mixed := by kernel_rfl
  f125 := Try.func85.trans (congrArg some (by kernel_rfl))
  f128 := Try.func102.trans (congrArg some (by kernel_rfl))
  f129 := Try.func103.trans (congrArg some (by kernel_rfl))
  f189 := Try.func55.trans (congrArg some (by kernel_rfl))
  f215 := Try.func111.trans (congrArg some (by kernel_rfl))
  f216 := Try.func99.trans (congrArg some (by kernel_rfl))
  f257 := Try.func84.trans (congrArg some (by kernel_rfl))
  f294 := Try.func93.trans (congrArg some (by kernel_rfl))
  f295 := Try.func94.trans (congrArg some (by kernel_rfl))
  f296 := Try.func95.trans (congrArg some (by kernel_rfl))
  f297 := Try.func96.trans (congrArg some (by kernel_rfl))
  f298 := Try.func97.trans (congrArg some (by kernel_rfl))
  f299 := Try.func98.trans (congrArg some (by kernel_rfl))
  f300 := Try.func100.trans (congrArg some (by kernel_rfl))
  f301 := Try.func101.trans (congrArg some (by kernel_rfl))
  f328 := Try.func106.trans (congrArg some (by kernel_rfl))
  f329 := Try.func107.trans (congrArg some (by kernel_rfl))
  f330 := Try.func108.trans (congrArg some (by kernel_rfl))
  f331 := Try.func109.trans (congrArg some (by kernel_rfl))
  f332 := Try.func110.trans (congrArg some (by kernel_rfl))
  f343 := Try.func112.trans (congrArg some (by kernel_rfl))
  t0 := Try.underlying0
  a0 := Try.isAgg0
  z0 := Try.sizeOf0
  v0 := Try.zeroValue0
  t3 := Try.underlying3
  a3 := Try.isAgg3
  z3 := Try.sizeOf3
  v3 := Try.zeroValue3
  t4 := Try.underlying4
  a4 := Try.isAgg4
  z4 := Try.sizeOf4
  v4 := Try.zeroValue4
  t5 := Try.underlying5
  a5 := Try.isAgg5
  z5 := Try.sizeOf5
  v5 := Try.zeroValue5
  t9 := Try.underlying9
  a9 := Try.isAgg9
  z9 := Try.sizeOf9
  v9 := Try.zeroValue9
  t28 := Try.underlying40
  a28 := Try.isAgg40
  z28 := Try.sizeOf40
  v28 := Try.zeroValue40
  t46 := Try.underlying96
  a46 := Try.isAgg96
  z46 := Try.sizeOf96
  v46 := Try.zeroValue96
  t51 := Try.underlying193
  a51 := Try.isAgg193
  z51 := Try.sizeOf193
  v51 := Try.zeroValue193
  t53 := Try.underlying163
  a53 := Try.isAgg163
  z53 := Try.sizeOf163
  v53 := Try.zeroValue163
  t131 := Try.underlying190
  a131 := Try.isAgg190
  z131 := Try.sizeOf190
  v131 := Try.zeroValue190
  t182 := Try.underlying184
  a182 := Try.isAgg184
  z182 := Try.sizeOf184
  v182 := Try.zeroValue184
  t183 := Try.underlying185
  a183 := Try.isAgg185
  z183 := Try.sizeOf185
  v183 := Try.zeroValue185
  t218 := Try.underlying198
  a218 := Try.isAgg198
  z218 := Try.sizeOf198
  v218 := Try.zeroValue198
  t222 := Try.underlying202
  a222 := Try.isAgg202
  z222 := Try.sizeOf202
  v222 := Try.zeroValue202
  t228 := Try.underlying204
  a228 := Try.isAgg204
  z228 := Try.sizeOf204
  v228 := Try.zeroValue204
  t229 := Try.underlying205
  a229 := Try.isAgg205
  z229 := Try.sizeOf205
  v229 := Try.zeroValue205

theorem sort_ok (s : St) (B : Nat) (v : Value) (xs : List Int) (h : ArrS s B 3 v xs) (hlen : xs.length < 4611686018427387904) :
    Calls Try.prog 55 #[v] s.w (fun e w' => ∃ s' : St, e = .returned (.tuple #[]) ∧ s'.w = w' ∧ Tch (own v) s s' ∧ ArrS s' B 3 v (xs.mergeSort fun x y => decide (x ≤ y))) := by
  rcases h with ⟨rfl, rfl⟩ | ⟨b, cap, C, rfl, hb, hc, hm, hl, hr⟩
  · refine Calls.mono (Any.slices_Sort_int_none sortLays none 0 s.w) ?_
    rintro e w' ⟨rfl, rfl⟩
    exact ⟨s, rfl, rfl, Tch.refl _ s, .inl ⟨rfl, by simp⟩⟩
  · have hlt := hm.lt
    have hcell : ∀ j (hj : j < xs.length), C[j]? = some (.int .i64 xs[j]) := fun j hj => by
      have h1 := hr j hj
      have h2 : (C.drop (j * 1)).take 1 = [Value.int .i64 xs[j]] := h1
      rw [Nat.mul_one] at h2
      have h3 := congrArg (fun l : List Value => l[0]?) h2
      simpa [List.getElem?_take, List.getElem?_drop] using h3
    have hH : Holds (Value.int .i64) s.w b 0 xs.toArray := fun j hj => by
      have hj' : j < xs.length := by simpa using hj
      refine ⟨?_, ?_⟩
      · rw [Nat.zero_add, hm.cell, hcell j hj', getElem!_pos xs.toArray j hj]
        simp
      · unfold World.frozen?
        simp [hm.heap]
    refine Calls.mono (Any.slices_Sort_int sortLays b 0 cap xs s.w hH hlt hlen) ?_
    rintro e w' ⟨rfl, n, os, rfl⟩
    generalize hd : (xs.mergeSort fun x y => decide (x ≤ y)) = d
    have hdl : d.length = xs.length := by rw [← hd]; exact List.length_mergeSort xs
    have hh : ∀ k, k < s.w.heap.size → (grow (putRow (Value.int .i64) (Sort.ahead s.w n) b 0 d.toArray) os).heap[k]? = if b = k then some (.cells (putCells (Value.int .i64) 0 d.toArray C.toArray) 3 (0, 0)) else s.w.heap[k]? := fun k hk => by
      show ((s.w.heap.modify b (onCells (putCells (Value.int .i64) 0 d.toArray))) ++ os)[k]? = _
      rw [Array.getElem?_append_left (by simpa using hk), Array.getElem?_modify]
      split
      · rename_i e; subst e; rw [hm.heap]; rfl
      · rfl
    have hsz : (grow (putRow (Value.int .i64) (Sort.ahead s.w n) b 0 d.toArray) os).heap.size = s.w.heap.size + os.size := by
      show ((s.w.heap.modify b (onCells (putCells (Value.int .i64) 0 d.toArray))) ++ os).size = _
      simp
    have hg := hm.g
    have ho1 : (grow (putRow (Value.int .i64) (Sort.ahead s.w n) b 0 d.toArray) os).os = s.w.os := rfl
    have ho2 : (grow (putRow (Value.int .i64) (Sort.ahead s.w n) b 0 d.toArray) os).tape = s.w.tape := rfl
    have ho3 : (grow (putRow (Value.int .i64) (Sort.ahead s.w n) b 0 d.toArray) os).output = s.w.output := rfl
    generalize grow (putRow (Value.int .i64) (Sort.ahead s.w n) b 0 d.toArray) os = w' at *
    let s' : St := ⟨w', s.g, fun k hk => s.ok k (by omega)⟩
    have hne : ∀ k, 0 < s.g k → k < s.w.heap.size ∧ b ≠ k := fun k hk => by
      refine ⟨Nat.lt_of_not_le fun x => ?_, fun e => ?_⟩
      · have := s.ok k x; omega
      · subst e; omega
    have t : Tch (own (.slice (some ⟨b, 0, none⟩) xs.length cap)) s s' := by
      refine ⟨ho1, ho2, ho3, by show s.w.heap.size ≤ w'.heap.size; omega, fun k hk nk => ?_, fun _ _ _ => rfl, ⟨fun _ => Nat.le_refl _, fun k o hk => ?_, fun k hk _ => ?_⟩⟩
      · show w'.heap[k]? = _
        rw [hh k hk, if_neg (fun e => nk (by subst e; rfl))]
      · obtain ⟨h1, h2⟩ := hne k (by omega)
        show w'.cell? _ = _
        unfold World.cell?
        rw [hh k h1, if_neg h2]
      · obtain ⟨h1, h2⟩ := hne k hk
        show w'.heap[k]? = _
        rw [hh k h1, if_neg h2]
    refine ⟨s', rfl, rfl, t, .inr ⟨b, cap, (putCells (Value.int .i64) 0 d.toArray C.toArray).toList, by rw [hdl], hb, by rw [hdl]; exact hc, ⟨?_, hg⟩, ?_, fun i hi => ?_⟩⟩
    · show w'.heap[b]? = _
      rw [hh b hlt, if_pos rfl]
    · rw [hdl]
      simpa [putCells] using hl
    · have hi' : i < C.length := by
        have : xs.length * 1 ≤ C.length := hl
        omega
      have e1 : (putCells (Value.int .i64) 0 d.toArray C.toArray).toList[i]? = some (.int .i64 d[i]) := by
        unfold putCells
        rw [Array.getElem?_toList, Array.getElem?_mapIdx]
        have e2 : C.toArray[i]? = some C[i] := by simp [hi']
        rw [e2, Option.map_some, if_pos (by simp; exact hi), Nat.sub_zero, getElem!_pos d.toArray i (by simpa using hi)]
        simp
      show Rep.rel s' (((putCells (Value.int .i64) 0 d.toArray C.toArray).toList.drop (i * 1)).take 1) d[i]
      rw [Nat.mul_one]
      show _ = [Value.int .i64 d[i]]
      rw [List.getElem?_eq_some_iff] at e1
      obtain ⟨h5, e1⟩ := e1
      rw [List.drop_eq_getElem_cons h5, e1]
      rfl
end Go.Arm
namespace Go.Arm
open Go Go.RowKit Go.Proofs

theorem bef_iff {o : Option Spot} {line : List Int} : bef o line = true ↔ ∃ sp c, o = some sp ∧ idx line sp.proc = some c ∧ sp.saved < c := by
  unfold bef
  cases o with
  | none => simp
  | some sp =>
    cases h : idx line sp.proc with
    | none => simp [h]
    | some c =>
      simp only [h]
      exact ⟨fun x => ⟨sp, c, rfl, h, of_decide_eq_true x⟩, fun ⟨sp', c', e1, e2, x⟩ => by cases e1; rw [h] at e2; cases e2; exact decide_eq_true x⟩
/-- A line before which nothing was received that was not sent before it. -/
def Cons (ps : List (Int × Psg)) (line : List Int) : Prop := ∀ e, e ∈ ps → bef e.2.recv.x line = true → bef e.2.sent.x line = true
def LeL (a b : List Int) : Prop := a.length = b.length ∧ ∀ (i : Nat) (x y : Int), a[i]? = some x → b[i]? = some y → x ≤ y
def Top (ps : List (Int × Psg)) (hv line : List Int) : Prop := ∀ c, LeL c hv → Cons ps c → LeL c line
structure IsLine (ps : List (Int × Psg)) (hv line : List Int) : Prop where
  le : LeL line hv
  con : Cons ps line
  top : Top ps hv line
theorem LeL.refl (a : List Int) : LeL a a := ⟨rfl, fun i x y h k => by rw [h] at k; cases k; exact Int.le_refl _⟩
theorem LeL.antisymm {a b : List Int} (h : LeL a b) (k : LeL b a) : a = b := by
  refine List.ext_getElem h.1 fun i h1 h2 => ?_
  have e1 := List.getElem?_eq_getElem h1
  have e2 := List.getElem?_eq_getElem h2
  exact Int.le_antisymm (h.2 i _ _ e1 e2) (k.2 i _ _ e2 e1)
theorem IsLine.unique {ps : List (Int × Psg)} {hv a b : List Int} (h : IsLine ps hv a) (k : IsLine ps hv b) : a = b :=
  LeL.antisymm (k.top a h.le h.con) (h.top b k.le k.con)
theorem idx_nat {l : List Int} {p c : Int} (h : idx l p = some c) : 0 ≤ p ∧ l[p.toNat]? = some c := ⟨(idx_some h).1, (idx_some h).2.2⟩
theorem bef_mono {o : Option Spot} {a b : List Int} (h : LeL a b) (k : bef o a = true) : bef o b = true := by
  obtain ⟨sp, c, rfl, hc, hlt⟩ := bef_iff.1 k
  obtain ⟨h0, h1⟩ := idx_nat hc
  have hl := (List.getElem?_eq_some_iff.1 h1).1
  have hl2 : sp.proc.toNat < b.length := by rw [← h.1]; exact hl
  obtain ⟨y, h2⟩ : ∃ y, b[sp.proc.toNat]? = some y := ⟨_, List.getElem?_eq_getElem hl2⟩
  refine bef_iff.2 ⟨sp, _, rfl, ?_, Int.lt_of_lt_of_le hlt (h.2 _ _ _ h1 h2)⟩
  show (if 0 ≤ sp.proc then b[sp.proc.toNat]? else none) = _
  rw [if_pos h0]; exact h2
theorem top_step {ps : List (Int × Psg)} {hv line : List Int} {e : Int × Psg} {rc : Spot} (h : Top ps hv line) (he : e ∈ ps) (hr : e.2.recv.x = some rc) (hb : bef e.2.sent.x line = false) (h0 : 0 ≤ rc.proc) :
    Top ps hv (line.set rc.proc.toNat rc.saved) := fun c hc hcon => by
  have hl := h c hc hcon
  refine ⟨by rw [List.length_set]; exact hl.1, fun i x y hx hy => ?_⟩
  rw [List.getElem?_set] at hy
  split at hy
  · rename_i hi
    split at hy
    · rename_i hlt
      cases hy
      refine Int.not_lt.1 fun hn => ?_
      have hr2 : bef e.2.recv.x c = true := bef_iff.2 ⟨rc, x, hr, by show (if 0 ≤ rc.proc then c[rc.proc.toNat]? else none) = _; rw [if_pos h0, hi]; exact hx, hn⟩
      have := bef_mono hl (hcon e he hr2)
      rw [hb] at this; cases this
    · cases hy
  · exact hl.2 i x y hx hy
/-- A measure of a line. -/
def tot : List Int → Nat
  | [] => 0
  | x :: l => x.toNat + tot l
theorem tot_set : ∀ {l : List Int} {i : Nat} {c y : Int}, l[i]? = some c → 0 ≤ y → y < c → tot (l.set i y) < tot l
  | [], _, _, _, h, _, _ => by simp at h
  | x :: l, 0, c, y, h, h0, h1 => by
    simp only [List.getElem?_cons_zero, Option.some.injEq] at h
    subst h
    show y.toNat + tot l < x.toNat + tot l
    omega
  | x :: l, i + 1, c, y, h, h0, h1 => by
    have := tot_set (l := l) (i := i) (by simpa using h) h0 h1
    show x.toNat + tot (l.set i y) < x.toNat + tot l
    omega
theorem le_set {line hv : List Int} {i : Nat} {c y : Int} (h : LeL line hv) (hc : line[i]? = some c) (hy : y < c) : LeL (line.set i y) hv := by
  refine ⟨by rw [List.length_set]; exact h.1, fun j a b ha hb => ?_⟩
  rw [List.getElem?_set] at ha
  split at ha
  · rename_i e
    split at ha
    · cases ha
      subst e
      have := h.2 _ _ _ hc hb
      omega
    · cases ha
  · exact h.2 j a b ha hb
/-- What the spots of messages keep to. -/
def OkM (n : Nat) (ps : List (Int × Psg)) : Prop := ∀ e, e ∈ ps → OkS n e.2.sent.x ∧ OkS n e.2.recv.x
def rP (ps : List (Int × Psg)) : List (Int × Ref Psg) := ps.map fun e => (e.1, (⟨e.2⟩ : Ref Psg))
/-- The messages under way. -/
def undW (line : List Int) (l : List (Int × Ref Psg)) : List Int := (l.filter fun e => bef e.2.x.sent.x line && !bef e.2.x.recv.x line).map (·.1)
open Classical in
noncomputable def lineOf (ps : List (Int × Psg)) (hv : List Int) : List Int := if h : ∃ l, IsLine ps hv l then Classical.choose h else []
theorem lineOf_eq {ps : List (Int × Psg)} {hv l : List Int} (h : IsLine ps hv l) : lineOf ps hv = l := by
  unfold lineOf
  have h' : ∃ l, IsLine ps hv l := ⟨l, h⟩
  rw [dif_pos h']
  exact (Classical.choose_spec h').unique h
theorem sort_perm {l l' : List Int} (h : l.Perm l') : (l.mergeSort fun x y => decide (x ≤ y)) = l'.mergeSort fun x y => decide (x ≤ y) := by
  have tr : ∀ a b c : Int, decide (a ≤ b) = true → decide (b ≤ c) = true → decide (a ≤ c) = true := fun a b c h1 h2 => by simp only [decide_eq_true_eq] at *; omega
  have to : ∀ a b : Int, (decide (a ≤ b) || decide (b ≤ a)) = true := fun a b => by simp only [Bool.or_eq_true, decide_eq_true_eq]; omega
  refine List.Perm.eq_of_pairwise (le := fun a b => decide (a ≤ b) = true) (fun a b _ _ h1 h2 => ?_) (List.pairwise_mergeSort tr to l) (List.pairwise_mergeSort tr to l') (((List.mergeSort_perm l _).trans h).trans (List.mergeSort_perm l' _).symm)
  simp only [decide_eq_true_eq] at h1 h2
  omega
def haveL (hv sv : List Int) : Nat → Int → Option (Sum Unit Unit)
  | 0, _ => none
  | m + 1, p =>
  if decide (p < (hv.length : Int)) then
  (Option.bind (idx hv p) fun x =>
  Option.bind (if decide (x < 0) then some true else Option.bind (idx sv p) fun c => some (decide (c < x))) fun b =>
  if b then (some (.inr ())) else
  chk (inR (p + 1)) <| haveL hv sv m (p + 1))
  else
  (some (.inl ()))
open Classical in
noncomputable def check_Line (N : Nat) (h : List (List Item)) (hv : List Int) : Option (List Int × List Int × Int) :=
  Option.bind (check_passages N h) fun q =>
  if !decide (q.2.2 = 0) then
  (some ([], [], q.2.2))
  else
  (if !decide ((hv.length : Int) = (h.length : Int)) then
  (some ([], [], 26))
  else
  (Option.bind (haveL hv q.2.1 N 0) fun o => match o with
  | .inr () => some ([], [], 3)
  | .inl () => Option.bind (slices_Clone_Lint_int N hv) fun hc => if OkM hc.length q.1 ∧ (q.1.length + 1) * 8 ≤ 140737488355328 ∧ q.1.length + 1 ≤ maxLen then some (lineOf q.1 hc, (undW (lineOf q.1 hc) (rP q.1)).mergeSort fun x y => decide (x ≤ y), 0) else none))

theorem calP : Callee Try.prog 52 := ⟨_, Try.func52, by kernel_rfl, by kernel_rfl⟩
theorem calB : Callee Try.prog 54 := ⟨_, Try.func54, by kernel_rfl, by kernel_rfl⟩
theorem calK : Callee Try.prog 53 := ⟨_, Try.func53, by kernel_rfl, by kernel_rfl⟩
theorem calS : Callee Try.prog 55 := ⟨_, Try.func55, by kernel_rfl, by kernel_rfl⟩
theorem undW_perm {line : List Int} {l l' : List (Int × Ref Psg)} (h : l.Perm l') : (undW line l).Perm (undW line l') := (h.filter _).map _
def LineR (r : List Int × List Int × Int) (v : Value) (s : St) : Prop := ∃ a b c, v = .tuple #[a, b, c] ∧ V s a r.1 ∧ V s b r.2.1 ∧ V s c r.2.2
theorem check_Line_ok (N : Nat) (s0 : St) (w0 : Value) (a0 : List (List Item)) (h0 : V s0 w0 a0) (w1 : Value) (a1 : List Int) (h1 : V s0 w1 a1) (r : List Int × List Int × Int) (hr : check_Line N a0 a1 = some r) :
    Calls Try.prog 19 #[w0, w1] s0.w (Ret s0 fun v s => ∃ a b c, v = .tuple #[a, b, c] ∧ V s a r.1 ∧ V s b r.2.1 ∧ V s c r.2.2) := by
  unfold check_Line at hr
  have hE0 := Ext.refl s0
  refine Calls_of (n := 123) (args := [w0, w1]) Try.func19 rfl rfl (by simp) ?_
  obtain ⟨q, hq, hr⟩ := bind_some hr
  refine W_seq ?_
  refine W_region ?_
  refine L_assign (rfl : _ = Value.slice none 0 0) (by decide) ?_
  refine L_assign (rfl : _ = Value.slice none 0 0) (by decide) ?_
  refine L_assign (rfl : _ = Value.int .i64 0) (by decide) ?_
  refine L_nil ?_
  refine then_n ?_
  refine W_seq ?_
  refine W_region ?_
  refine L_move (rfl : _ = w0) (by decide) ?_
  refine L_calls calP (args1 (rfl : _ = w0)) (check_passages_ok N s0 w0 a0 h0 q hq) (by decide) ?_
  intro v0 s1 e1 hv0
  obtain ⟨vm, vs, ve, rfl, hM, hS, hE⟩ := hv0
  obtain rfl := hE.int
  refine L_move (rfl : _ = Value.tuple #[vm, vs, Value.int .i64 q.2.2]) (by decide) ?_
  refine L_extract (rfl : _ = Value.tuple #[vm, vs, Value.int .i64 q.2.2]) (k := 0) rfl (by decide) ?_
  refine L_extract (rfl : _ = Value.tuple #[vm, vs, Value.int .i64 q.2.2]) (k := 1) rfl (by decide) ?_
  refine L_extract (rfl : _ = Value.tuple #[vm, vs, Value.int .i64 q.2.2]) (k := 2) rfl (by decide) ?_
  refine L_assign (rfl : _ = vm) (by decide) ?_
  refine L_assign (rfl : _ = vs) (by decide) ?_
  refine L_assign (rfl : _ = Value.int .i64 q.2.2) (by decide) ?_
  refine L_nil ?_
  refine then_n ?_
  refine W_seq_cut (fun f w => w = s1.w ∧ f 1 = w1 ∧ f 7 = vm ∧ f 8 = vs ∧ Option.bind (haveL a1 q.2.1 N 0) (fun o => match o with
    | .inr () => some (([] : List Int), ([] : List Int), (3 : Int))
    | .inl () => Option.bind (slices_Clone_Lint_int N a1) fun hc => open Classical in if OkM hc.length q.1 ∧ (q.1.length + 1) * 8 ≤ 140737488355328 ∧ q.1.length + 1 ≤ maxLen then some (lineOf q.1 hc, (undW (lineOf q.1 hc) (rP q.1)).mergeSort fun x y => decide (x ≤ y), 0) else none) = some r) ?_ ?_
  · refine W_block ?_
    refine W_seq ?_
    refine W_region ?_
    refine L_move (rfl : _ = Value.int .i64 q.2.2) (by decide) ?_
    refine L_neq (rfl : _ = Value.int .i64 q.2.2) (rfl : _ = Value.int .i64 0) (by decide) ?_
    refine L_assign (rfl : _ = Value.bool (!decide (q.2.2 = 0))) (by decide) ?_
    refine L_nil ?_
    refine then_n ?_
    refine W_cond _ (rfl : _ = Value.bool (!decide (q.2.2 = 0))) (fun hb => ?_) (fun hb => ?_)
    · have hr := ite_t hb hr
      refine W_seq ?_
      refine W_region ?_
      refine L_move (rfl : _ = Value.int .i64 q.2.2) (by decide) ?_
      refine L_assign (rfl : _ = Value.slice none 0 0) (by decide) ?_
      refine L_assign (rfl : _ = Value.slice none 0 0) (by decide) ?_
      refine L_assign (rfl : _ = Value.int .i64 q.2.2) (by decide) ?_
      refine L_nil ?_
      refine then_n ?_
      refine W_ret ?_
      repeat first | refine then_r ?_ | refine block_r ?_
      obtain rfl := Option.some.inj hr
      exact done3 (Or.inl rfl) Try.results19 rfl rfl rfl ⟨_, s1, rfl, rfl, e1, _, _, _, rfl, Vnil, Vnil, Vint⟩
    · have hr := ite_f hb hr
      refine W_seq ?_
      refine W_region ?_
      refine L_move (rfl : _ = w1) (by decide) ?_
      refine L_len Try.underlying40 (rfl : _ = w1) (h1.mono e1.le) (by decide) ?_
      refine L_move (rfl : _ = w0) (by decide) ?_
      refine L_len Try.underlying49 (rfl : _ = w0) (h0.mono e1.le) (by decide) ?_
      refine L_neq (rfl : _ = Value.int .i64 (a1.length : Int)) (rfl : _ = Value.int .i64 (a0.length : Int)) (by decide) ?_
      refine L_assign (rfl : _ = Value.bool (!decide ((a1.length : Int) = (a0.length : Int)))) (by decide) ?_
      refine L_nil ?_
      refine then_n ?_
      refine W_cond _ (rfl : _ = Value.bool (!decide ((a1.length : Int) = (a0.length : Int)))) (fun hb => ?_) (fun hb => ?_)
      · have hr := ite_t hb hr
        refine W_seq ?_
        refine W_region ?_
        refine L_assign (rfl : _ = Value.slice none 0 0) (by decide) ?_
        refine L_assign (rfl : _ = Value.slice none 0 0) (by decide) ?_
        refine L_assign (rfl : _ = Value.int .i64 26) (by decide) ?_
        refine L_nil ?_
        refine then_n ?_
        refine W_ret ?_
        repeat first | refine then_r ?_ | refine block_r ?_
        obtain rfl := Option.some.inj hr
        exact done3 (Or.inl rfl) Try.results19 rfl rfl rfl ⟨_, s1, rfl, rfl, e1, _, _, _, rfl, Vnil, Vnil, Vint⟩
      · have hr := ite_f hb hr
        refine W_skip ?_
        refine block_n ?_
        exact then_n ⟨rfl, rfl, rfl, rfl, hr⟩
  clear hr
  rintro f w ⟨rfl, g1, g7, g8, hr⟩
  obtain ⟨o, ho, hr⟩ := bind_some hr
  refine W_seq_cut (fun f w => w = s1.w ∧ f 1 = w1 ∧ f 7 = vm ∧ o = .inl ()) ?_ ?_
  · refine W_seq ?_
    refine W_region ?_
    refine L_move g1 (by decide) ?_
    refine L_len Try.underlying40 (rfl : _ = w1) (h1.mono e1.le) (by decide) ?_
    refine L_move (rfl : _ = Value.int .i64 0) (by decide) ?_
    refine L_nil ?_
    refine then_n ?_
    refine W_block ?_
    refine W_loop (fun m f w => ∃ p : Int, w = s1.w ∧ haveL a1 q.2.1 m p = some o ∧ f 1 = w1 ∧ f 7 = vm ∧ f 8 = vs ∧ f 35 = w1 ∧ f 36 = Value.int .i64 (a1.length : Int) ∧ f 37 = Value.int .i64 p) N ⟨0, rfl, ho, g1, g7, g8, rfl, rfl, rfl⟩ ?_
    clear ho g1 g7 g8
    rintro m f w ⟨p, rfl, ho, g1, g7, g8, g35, g36, g37⟩
    cases m with
    | zero => exact absurd ho (by simp [haveL])
    | succ m =>
      rw [haveL] at ho
      refine W_seq ?_
      refine W_region ?_
      refine L_lss g37 g36 (by decide) ?_
      refine L_nil ?_
      refine then_n ?_
      refine W_seq ?_
      refine W_cond _ (rfl : _ = Value.bool (decide (p < (a1.length : Int)))) (fun hb => ?_) (fun hb => ?_)
      · have ho := ite_t hb ho
        obtain ⟨x, hx, ho⟩ := bind_some ho
        obtain ⟨b, hb2, ho⟩ := bind_some ho
        refine W_skip ?_
        refine then_n ?_
        refine W_seq ?_
        refine W_block ?_
        refine W_seq ?_
        refine W_region ?_
        refine L_move g37 (by decide) ?_
        refine L_index Try.underlying40 ty3.inf g35 (h1.mono e1.le) g37 hx (by decide) ?_
        intro p1 hp1
        refine L_load_int ty3 (rfl : _ = p1) hp1 (by decide) ?_
        refine L_assign (rfl : _ = Value.int .i64 p) (by decide) ?_
        refine L_assign (rfl : _ = Value.int .i64 x) (by decide) ?_
        refine L_nil ?_
        refine then_n ?_
        refine W_seq_cut (fun f w => w = s1.w ∧ f 51 = Value.bool b ∧ f 1 = w1 ∧ f 7 = vm ∧ f 8 = vs ∧ f 35 = w1 ∧ f 36 = Value.int .i64 (a1.length : Int) ∧ f 37 = Value.int .i64 p) ?_ ?_
        · refine W_region ?_
          refine L_move (rfl : _ = Value.int .i64 x) (by decide) ?_
          refine L_lss (rfl : _ = Value.int .i64 x) (rfl : _ = Value.int .i64 0) (by decide) ?_
          refine L_move (rfl : _ = Value.bool (decide (x < 0))) (by decide) ?_
          rcases Bool.eq_false_or_eq_true (decide (x < 0)) with hk | hk
          · have hb2 := ite_t hk hb2
            obtain rfl := Option.some.inj hb2
            refine L_gf (e := 44) (by rfl) (by decide) (rfl : _ = Value.bool (decide (x < 0))) hk (by decide) ?_
            refine L_gf (e := 44) (by rfl) (by decide) (rfl : _ = Value.bool (decide (x < 0))) hk (by decide) ?_
            refine L_gf (e := 44) (by rfl) (by decide) (rfl : _ = Value.bool (decide (x < 0))) hk (by decide) ?_
            refine L_gf (e := 44) (by rfl) (by decide) (rfl : _ = Value.bool (decide (x < 0))) hk (by decide) ?_
            refine L_gf (e := 44) (by rfl) (by decide) (rfl : _ = Value.bool (decide (x < 0))) hk (by decide) ?_
            refine L_gf (e := 44) (by rfl) (by decide) (rfl : _ = Value.bool (decide (x < 0))) hk (by decide) ?_
            refine L_pick_t (rfl : _ = Value.bool (decide (x < 0))) hk (rfl : _ = Value.bool true) (by decide) ?_
            refine L_nil ?_
            exact then_n ⟨rfl, rfl, g1, g7, g8, g35, g36, g37⟩
          · have hb2 := ite_f hk hb2
            obtain ⟨c, hc, hb2⟩ := bind_some hb2
            obtain rfl := Option.some.inj hb2
            refine L_gt (e := 44) (by rfl) (by decide) (rfl : _ = Value.bool (decide (x < 0))) hk ?_
            refine L_move (rfl : _ = Value.int .i64 x) (by decide) ?_
            refine L_gt (e := 44) (by rfl) (by decide) (rfl : _ = Value.bool (decide (x < 0))) hk ?_
            refine L_move g8 (by decide) ?_
            refine L_gt (e := 44) (by rfl) (by decide) (rfl : _ = Value.bool (decide (x < 0))) hk ?_
            refine L_move (rfl : _ = Value.int .i64 p) (by decide) ?_
            refine L_gt (e := 44) (by rfl) (by decide) (rfl : _ = Value.bool (decide (x < 0))) hk ?_
            refine L_index Try.underlying40 ty3.inf (rfl : _ = vs) hS (rfl : _ = Value.int .i64 p) hc (by decide) ?_
            intro p2 hp2
            refine L_gt (e := 44) (by rfl) (by decide) (rfl : _ = Value.bool (decide (x < 0))) hk ?_
            refine L_load_int ty3 (rfl : _ = p2) hp2 (by decide) ?_
            refine L_gt (e := 44) (by rfl) (by decide) (rfl : _ = Value.bool (decide (x < 0))) hk ?_
            refine L_gtr (rfl : _ = Value.int .i64 x) (rfl : _ = Value.int .i64 c) (by decide) ?_
            refine L_pick_f (rfl : _ = Value.bool (decide (x < 0))) hk (rfl : _ = Value.bool (decide (c < x))) (by decide) ?_
            refine L_nil ?_
            exact then_n ⟨rfl, rfl, g1, g7, g8, g35, g36, g37⟩
        clear g1 g7 g8 g35 g36 g37
        rintro f w ⟨rfl, g51, g1, g7, g8, g35, g36, g37⟩
        refine W_cond _ g51 (fun hb => ?_) (fun hb => ?_)
        · have ho := ite_t hb ho
          obtain rfl := Option.some.inj ho
          refine W_seq ?_
          refine W_region ?_
          refine L_assign (rfl : _ = Value.slice none 0 0) (by decide) ?_
          refine L_assign (rfl : _ = Value.slice none 0 0) (by decide) ?_
          refine L_assign (rfl : _ = Value.int .i64 3) (by decide) ?_
          refine L_nil ?_
          refine then_n ?_
          refine W_ret ?_
          repeat first | refine then_r ?_ | refine block_r ?_
          obtain rfl := Option.some.inj hr
          exact done3 (Or.inl rfl) Try.results19 rfl rfl rfl ⟨_, s1, rfl, rfl, e1, _, _, _, rfl, Vnil, Vnil, Vint⟩
        · have ho := ite_f hb ho
          obtain ⟨hc, ho⟩ := chk_some ho
          refine W_skip ?_
          refine block_n ?_
          refine then_n ?_
          refine W_region ?_
          refine L_add g37 (rfl : _ = Value.int .i64 1) hc (by decide) ?_
          refine L_move (rfl : _ = Value.int .i64 (p + 1)) (by decide) ?_
          refine L_nil ?_
          exact then_n ⟨m, Nat.lt_succ_self _, p + 1, rfl, ho, g1, g7, g8, g35, g36, rfl⟩
      · have ho := ite_f hb ho
        obtain rfl := Option.some.inj ho
        refine W_exit ?_
        refine then_x ?_
        refine then_x ?_
        refine block_here ?_
        exact then_n ⟨rfl, g1, g7, rfl⟩
  clear g1 g7 g8
  rintro f w ⟨rfl, g1, g7, rfl⟩
  obtain ⟨hc, hcl, hr⟩ := bind_some hr
  by_cases hcond : OkM hc.length q.1 ∧ (q.1.length + 1) * 8 ≤ 140737488355328 ∧ q.1.length + 1 ≤ maxLen
  case neg =>
    rw [if_neg hcond] at hr
    cases hr
  rw [if_pos hcond] at hr
  obtain ⟨hok, hb8, hbm⟩ := hcond
  obtain rfl := Option.some.inj hr
  clear hr
  have hM := hM.toMap
  have hM : MapV s1 vm (rP q.1) := hM
  refine W_seq ?_
  refine W_region ?_
  refine L_move g1 (by decide) ?_
  refine L_calls calK (args1 (rfl : _ = w1)) (slices_Clone_Lint_int_ok N s1 w1 a1 (h1.mono e1.le) hc hcl) (by decide) ?_
  intro vl s2a e2a hbl
  obtain ⟨s2, e2w, e2, hal⟩ := Bld.thaw flat3 e2a hbl
  rw [← e2w]
  refine L_assign (rfl : _ = vl) (by decide) ?_
  refine L_nil ?_
  refine then_n ?_
  clear e2a hbl e2w
  refine W_seq_cut (fun f w => ∃ (s : St) (ln : List Int), s.w = w ∧ Ext s1 s ∧ ArrS s s1.w.heap.size 3 vl ln ∧ IsLine q.1 hc ln ∧ f 7 = vm ∧ f 12 = vl) ?_ ?_
  · refine W_seq ?_
    refine W_region ?_
    refine L_assign (rfl : _ = Value.bool true) (by decide) ?_
    refine L_nil ?_
    refine then_n ?_
    refine W_block ?_
    refine W_loop (fun m f w => ∃ (s : St) (ln : List Int) (mv : Bool), s.w = w ∧ Ext s1 s ∧ ArrS s s1.w.heap.size 3 vl ln ∧ LeL ln hc ∧ Top q.1 hc ln ∧ (mv = false → Cons q.1 ln) ∧ m = (if mv then tot ln + 1 else 0) ∧ f 7 = vm ∧ f 12 = vl ∧ f 13 = Value.bool mv) (tot hc + 1) ⟨s2, hc, true, rfl, e2, hal, LeL.refl _, fun _ h _ => h, (fun h => by cases h), rfl, g7, rfl, rfl⟩ ?_
    clear g1 g7 hal e2
    rintro m f w ⟨s3, line, mv, rfl, e3, ha3, hle, htop, hcons, hm, g7, g12, g13⟩
    refine W_seq ?_
    refine W_seq ?_
    refine W_region ?_
    refine L_move g13 (by decide) ?_
    refine L_nil ?_
    refine then_n ?_
    refine W_cond mv rfl (fun hmv => ?_) (fun hmv => ?_)
    case refine_2 =>
      refine W_exit ?_
      refine then_x ?_
      refine then_x ?_
      refine block_here ?_
      exact then_n ⟨s3, line, rfl, e3, ha3, ⟨hle, hcons hmv, htop⟩, g7, g12⟩
    rw [hmv, if_pos rfl] at hm
    clear hcons
    refine W_skip ?_
    refine then_n ?_
    refine W_block ?_
    refine W_seq ?_
    refine W_region ?_
    refine L_assign (rfl : _ = Value.bool false) (by decide) ?_
    refine L_nil ?_
    refine then_n ?_
    refine W_seq ?_
    refine W_region ?_
    refine L_move g7 (by decide) ?_
    refine L_range und107 (rfl : _ = vm) (hM.mono e3.le) (by decide) ?_
    intro s4 it e4 hit hI
    have hne : ∀ b, own vl b → b ≠ it := fun b hb e => by have := (ha3.lt hb).2; omega
    have hit1 : s1.w.heap.size ≤ it := Nat.le_trans e3.size hit
    refine L_nil ?_
    refine then_n ?_
    refine W_block ?_
    refine W_loop (fun k f w => ∃ (s : St) (ln : List Int) (mv : Bool) (R : List (Int × Ref Psg)), s.w = w ∧ Ext s1 s ∧ ArrS s s1.w.heap.size 3 vl ln ∧ LeL ln hc ∧ Top q.1 hc ln ∧ Iter s it R ∧ R.length = k ∧ (∀ e, e ∈ R → e ∈ rP q.1) ∧ (mv = false → ln = line ∧ ∀ e, e ∈ rP q.1 → e ∈ R ∨ (bef e.2.x.recv.x line && !bef e.2.x.sent.x line) = false) ∧ (mv = true → tot ln < tot line) ∧ f 7 = vm ∧ f 12 = vl ∧ f 13 = Value.bool mv ∧ f 57 = Value.pointer (some ⟨it, 0, none⟩)) (rP q.1).length
      ⟨s4, line, false, rP q.1, rfl, e3.trans e4, ha3.ext e4, hle, htop, hI, rfl, fun _ h => h, fun _ => ⟨rfl, fun _ h => .inl h⟩, (fun h => by cases h), g7, g12, rfl, rfl⟩ ?_
    clear g7 g12 hI e4 hle htop ha3
    rintro k f w ⟨s7, ln, mv, R, rfl, e7, ha7, hle, htop, hI, hk, hR1, hmf, hmt, g7, g12, g13, g57⟩
    refine W_seq ?_
    refine W_region ?_
    refine L_next g57 hI (by decide) (fun hR => ?_) (fun kv R' s8 u hP t8 hA => ?_)
    · refine L_extract (rfl : _ = Value.tuple #[.bool false]) (k := 0) rfl (by decide) ?_
      refine L_nil ?_
      refine then_n ?_
      refine W_seq ?_
      refine W_cond false rfl (fun h => by cases h) (fun _ => ?_)
      refine W_exit ?_
      refine then_x ?_
      refine then_x ?_
      refine block_here ?_
      refine block_n ?_
      refine then_n ⟨if mv then tot ln + 1 else 0, ?_, s7, ln, mv, rfl, e7, ha7, hle, htop, fun h => ?_, rfl, g7, g12, g13⟩
      · rw [hm]
        cases mv with
        | true => have := hmt rfl; simp; omega
        | false => simp
      · obtain ⟨rfl, hall⟩ := hmf h
        intro e he h2
        have := (hall (e.1, ⟨e.2⟩) (List.mem_map.2 ⟨e, he, rfl⟩)).resolve_left (by rw [hR]; exact List.not_mem_nil)
        have h3 : (bef e.2.recv.x ln && !bef e.2.sent.x ln) = false := this
        rw [h2, Bool.true_and] at h3
        simpa using h3
    · have e8 : Ext s1 s8 := extW e7 t8 (fun k hk => hk ▸ hit1)
      have hkv : kv ∈ R := hP.mem_iff.2 (List.mem_cons_self ..)
      obtain ⟨e0, he0, hke⟩ := List.mem_map.1 (hR1 kv hkv)
      have hk0 : OkS hc.length kv.2.x.sent.x ∧ OkS hc.length kv.2.x.recv.x := by rw [← hke]; exact hok e0 he0
      have hlen := hle.1
      have ha8 := ha7.tch t8 hne
      refine L_extract (rfl : _ = Value.tuple #[.bool true, .int .i64 kv.1, u]) (k := 0) rfl (by decide) ?_
      refine L_nil ?_
      refine then_n ?_
      refine W_seq ?_
      refine W_cond true rfl (fun _ => ?_) (fun h => by cases h)
      refine W_skip ?_
      refine then_n ?_
      refine W_block ?_
      refine W_seq ?_
      refine W_region ?_
      refine L_entry g57 hA (by decide) ?_
      intro v hv
      refine L_extract (rfl : _ = Value.tuple #[.int .i64 kv.1, v]) (k := 1) rfl (by decide) ?_
      refine L_assign (rfl : _ = v) (by decide) ?_
      refine L_nil ?_
      refine then_n ?_
      have hp := hv.toPtr
      have hp8 := hp
      refine W_seq_cut (fun f w => ∃ s10 : St, s10.w = w ∧ Ext s8 s10 ∧ f 76 = Value.bool (bef kv.2.x.recv.x ln && !bef kv.2.x.sent.x ln) ∧ f 7 = vm ∧ f 12 = vl ∧ f 13 = Value.bool mv ∧ f 15 = v ∧ f 57 = Value.pointer (some ⟨it, 0, none⟩)) ?_ ?_
      · refine W_region ?_
        refine L_move (rfl : _ = v) (by decide) ?_
        refine L_nilCheck_ptr (rfl : _ = v) hp (by decide) ?_
        refine L_fieldAddr fld114_1 Psg.of_recv (rfl : _ = v) hp (by decide) ?_
        intro p1 hp1
        refine L_load ty112 (rfl : _ = p1) hp1 (by decide) ?_
        intro v1 hv1
        refine L_move g12 (by decide) ?_
        obtain ⟨s8a, e8a, t8a, hV8⟩ := ha8.freeze
        refine L_calls_fz calB (args2 (rfl : _ = v1) (rfl : _ = vl)) e8a t8a (fun k hk => ha8.unclaimed hk) (before_ok s8a v1 _ (hv1.mono t8a.le) vl ln hV8 (by rw [hlen]; exact hk0.2)) (by decide) ?_
        intro v2 s9a s9 e9a e9 hv2
        obtain rfl := hv2.bool
        have ha9 := ha8.ext e9
        have hp := hp.mono e9.le
        refine L_move (rfl : _ = Value.bool (bef kv.2.x.recv.x ln)) (by decide) ?_
        rcases Bool.eq_false_or_eq_true (bef kv.2.x.recv.x ln) with hb1 | hb1
        · refine L_gt (e := 68) (by rfl) (by decide) (rfl : _ = Value.bool (bef kv.2.x.recv.x ln)) hb1 ?_
          refine L_move (rfl : _ = v) (by decide) ?_
          refine L_gt (e := 68) (by rfl) (by decide) (rfl : _ = Value.bool (bef kv.2.x.recv.x ln)) hb1 ?_
          refine L_nilCheck_ptr (rfl : _ = v) hp (by decide) ?_
          refine L_gt (e := 68) (by rfl) (by decide) (rfl : _ = Value.bool (bef kv.2.x.recv.x ln)) hb1 ?_
          refine L_fieldAddr fld114_0 Psg.of_sent (rfl : _ = v) hp (by decide) ?_
          intro p2 hp2
          refine L_gt (e := 68) (by rfl) (by decide) (rfl : _ = Value.bool (bef kv.2.x.recv.x ln)) hb1 ?_
          refine L_load ty112 (rfl : _ = p2) hp2 (by decide) ?_
          intro v3 hv3
          refine L_gt (e := 68) (by rfl) (by decide) (rfl : _ = Value.bool (bef kv.2.x.recv.x ln)) hb1 ?_
          refine L_move g12 (by decide) ?_
          obtain ⟨s9b, e9b, t9b, hV9⟩ := ha9.freeze
          refine L_gt (e := 68) (by rfl) (by decide) (rfl : _ = Value.bool (bef kv.2.x.recv.x ln)) hb1 ?_
          refine L_calls_fz calB (args2 (rfl : _ = v3) (rfl : _ = vl)) e9b t9b (fun k hk => ha9.unclaimed hk) (before_ok s9b v3 _ (hv3.mono t9b.le) vl ln hV9 (by rw [hlen]; exact hk0.1)) (by decide) ?_
          intro v4 s10a s10 e10a e10 hv4
          obtain rfl := hv4.bool
          refine L_gt (e := 68) (by rfl) (by decide) (rfl : _ = Value.bool (bef kv.2.x.recv.x ln)) hb1 ?_
          refine L_not (rfl : _ = Value.bool (bef kv.2.x.sent.x ln)) (by decide) ?_
          refine L_pick_t (rfl : _ = Value.bool (bef kv.2.x.recv.x ln)) hb1 (rfl : _ = Value.bool (!bef kv.2.x.sent.x ln)) (by decide) ?_
          refine L_nil ?_
          exact then_n ⟨s10, rfl, e9.trans e10, by rw [hb1, Bool.true_and]; rfl, g7, g12, g13, rfl, g57⟩
        · refine L_gf (e := 68) (by rfl) (by decide) (rfl : _ = Value.bool (bef kv.2.x.recv.x ln)) hb1 (by decide) ?_
          refine L_gf (e := 68) (by rfl) (by decide) (rfl : _ = Value.bool (bef kv.2.x.recv.x ln)) hb1 (by decide) ?_
          refine L_gf (e := 68) (by rfl) (by decide) (rfl : _ = Value.bool (bef kv.2.x.recv.x ln)) hb1 (by decide) ?_
          refine L_gf (e := 68) (by rfl) (by decide) (rfl : _ = Value.bool (bef kv.2.x.recv.x ln)) hb1 (by decide) ?_
          refine L_gf (e := 68) (by rfl) (by decide) (rfl : _ = Value.bool (bef kv.2.x.recv.x ln)) hb1 (by decide) ?_
          refine L_gf (e := 68) (by rfl) (by decide) (rfl : _ = Value.bool (bef kv.2.x.recv.x ln)) hb1 (by decide) ?_
          refine L_gf (e := 68) (by rfl) (by decide) (rfl : _ = Value.bool (bef kv.2.x.recv.x ln)) hb1 (by decide) ?_
          refine L_pick_f (rfl : _ = Value.bool (bef kv.2.x.recv.x ln)) hb1 (rfl : _ = Value.bool false) (by decide) ?_
          refine L_nil ?_
          exact then_n ⟨s9, rfl, e9, by rw [hb1, Bool.false_and]; rfl, g7, g12, g13, rfl, g57⟩
      clear g7 g12 g13 g57
      rintro f w ⟨s10, rfl, e10, g76, g7, g12, g13, g15, g57⟩
      have hp := hp8.mono e10.le
      have ha10 := ha8.ext e10
      have hlen2 := hP.length_eq
      refine W_cond _ g76 (fun hb => ?_) (fun hb => ?_)
      · rw [Bool.and_eq_true] at hb
        obtain ⟨hb1, hb2⟩ := hb
        have hb2 : bef kv.2.x.sent.x ln = false := by simpa using hb2
        obtain ⟨rc, c, hrc, hci, hlt⟩ := bef_iff.1 hb1
        have eD := Ext.drew s10
        have hp := hp.mono eD.le
        have ha11 := ha10.ext eD
        have hrs := hk0.2 rc hrc
        refine W_seqd (s := s10) [0, 1, 2, 3, 4, 5, 6, 7, 8, 9, 10, 11, 12, 13, 14, 15, 16, 17] mixed (by kernel_rfl) rfl ?_
        refine L_move g12 (by decide) ?_
        refine L_move g15 (by decide) ?_
        refine L_nilCheck_ptr (rfl : _ = v) hp (by decide) ?_
        refine L_fieldAddr fld114_1 Psg.of_recv (rfl : _ = v) hp (by decide) ?_
        intro p1 hp1
        refine L_load ty112 (rfl : _ = p1) hp1 (by decide) ?_
        intro v1 hv1
        rcases hv1.nref with ⟨hn, _⟩ | ⟨a3, ha3, hv1⟩
        · rw [hrc] at hn; cases hn
        rw [hrc] at ha3
        cases ha3
        refine L_nilCheck_ptr (rfl : _ = v1) hv1 (by decide) ?_
        refine L_fieldAddr fld117_0 Spot.of_proc (rfl : _ = v1) hv1 (by decide) ?_
        intro p2 hp2
        refine L_load_int ty3 (rfl : _ = p2) hp2 (by decide) ?_
        refine L_move g15 (by decide) ?_
        refine L_nilCheck_ptr (rfl : _ = v) hp (by decide) ?_
        refine L_fieldAddr fld114_1 Psg.of_recv (rfl : _ = v) hp (by decide) ?_
        intro p3 hp3
        refine L_load ty112 (rfl : _ = p3) hp3 (by decide) ?_
        intro v2 hv2
        rcases hv2.nref with ⟨hn, _⟩ | ⟨a4, ha4, hv2⟩
        · rw [hrc] at hn; cases hn
        rw [hrc] at ha4
        cases ha4
        refine L_nilCheck_ptr (rfl : _ = v2) hv2 (by decide) ?_
        refine L_fieldAddr fld117_1 Spot.of_saved (rfl : _ = v2) hv2 (by decide) ?_
        intro p4 hp4
        refine L_load_int ty3 (rfl : _ = p4) hp4 (by decide) ?_
        refine L_indexS Try.underlying40 ty3.inf (rfl : _ = vl) (rfl : _ = Value.int .i64 rc.proc) ha11 hci (by decide) ?_
        refine L_storeS ty3 (rfl : _ = elemP vl rc.proc 1 0) (rfl : _ = Value.int .i64 rc.saved) (Vint (x := rc.saved)) ha11 hci rfl ?_
        intro s11 t11 ha12
        refine L_assign (rfl : _ = Value.bool true) (by decide) ?_
        refine L_nil ⟨rfl, ?_⟩
        refine block_n ?_
        have hcn := (idx_nat hci).2
        have hdec := tot_set hcn hrs.2.2 hlt
        have hbe : bef e0.2.sent.x ln = false := by rw [← hke] at hb2; exact hb2
        have hre : e0.2.recv.x = some rc := by rw [← hke] at hrc; exact hrc
        refine then_n ⟨R'.length, by rw [← hk, hlen2]; exact Nat.lt_succ_self _, s11, _, true, R', rfl, extW ((e8.trans e10).trans eD) t11 (fun k hk => (ha11.lt hk).1), ha12, le_set hle hcn hlt, top_step htop he0 hre hbe hrs.1, ((hA.iter.ext e10).ext eD).tch t11 (fun x => hne _ x rfl), rfl, fun e he => hR1 e (hP.mem_iff.2 (List.mem_cons_of_mem _ he)), (fun h => by cases h), fun _ => ?_, g7, g12, rfl, g57⟩
        cases mv with
        | true => exact Nat.lt_trans hdec (hmt rfl)
        | false => rw [← (hmf rfl).1]; exact hdec
      · refine W_skip ?_
        refine block_n ?_
        refine then_n ⟨R'.length, by rw [← hk, hlen2]; exact Nat.lt_succ_self _, s10, ln, mv, R', rfl, e8.trans e10, ha10, hle, htop, hA.iter.ext e10, rfl, fun e he => hR1 e (hP.mem_iff.2 (List.mem_cons_of_mem _ he)), fun h => ⟨(hmf h).1, fun e he => ?_⟩, hmt, g7, g12, g13, g57⟩
        obtain ⟨rfl, hall⟩ := hmf h
        rcases hall e he with h | h
        · rcases List.mem_cons.1 (hP.mem_iff.1 h) with rfl | h
          · exact .inr hb
          · exact .inl h
        · exact .inr h
  clear g1 g7 hal e2
  rintro f w ⟨s3, ln, rfl, e3, ha3, hline, g7, g12⟩
  rw [lineOf_eq hline]
  have hms : (rP q.1).length = q.1.length := by unfold rP; rw [List.length_map]
  refine W_seq ?_
  refine W_region ?_
  refine L_assign (rfl : _ = Value.slice none 0 0) (by decide) ?_
  refine L_nil ?_
  refine then_n ?_
  refine W_seq_cut (fun f w => ∃ (s : St) (vu : Value) (un : List Int), s.w = w ∧ Ext s3 s ∧ Bld s s3.w.heap.size 3 vu un ∧ un.Perm (undW ln (rP q.1)) ∧ f 12 = vl ∧ f 16 = vu) ?_ ?_
  · refine W_seq ?_
    refine W_region ?_
    refine L_move g7 (by decide) ?_
    refine L_range und107 (rfl : _ = vm) (hM.mono e3.le) (by decide) ?_
    intro s4 it e4 hit hI
    refine L_nil ?_
    refine then_n ?_
    refine W_block ?_
    refine W_loop (fun k f w => ∃ (s : St) (vu : Value) (un : List Int) (R : List (Int × Ref Psg)), s.w = w ∧ Ext s3 s ∧ Bld s s3.w.heap.size 3 vu un ∧ Iter s it R ∧ R.length = k ∧ (∀ e, e ∈ R → e ∈ rP q.1) ∧ (un ++ undW ln R).Perm (undW ln (rP q.1)) ∧ ¬ own vu it ∧ f 7 = vm ∧ f 12 = vl ∧ f 16 = vu ∧ f 94 = Value.pointer (some ⟨it, 0, none⟩)) (rP q.1).length
      ⟨s4, _, [], rP q.1, rfl, e4, Bld.nil, hI, rfl, fun _ h => h, List.Perm.refl _, own_nil, g7, g12, rfl, rfl⟩ ?_
    clear g7 g12 hI e4
    rintro k f w ⟨s7, vu, un, R, rfl, e7, hbl, hI, hk, hR1, hpm, hno, g7, g12, g16, g94⟩
    refine W_seq ?_
    refine W_region ?_
    refine L_next g94 hI (by decide) (fun hR => ?_) (fun kv R' s8 u hP t8 hA => ?_)
    · refine L_extract (rfl : _ = Value.tuple #[.bool false]) (k := 0) rfl (by decide) ?_
      refine L_nil ?_
      refine then_n ?_
      refine W_seq ?_
      refine W_cond false rfl (fun h => by cases h) (fun _ => ?_)
      refine W_exit ?_
      refine then_x ?_
      refine then_x ?_
      refine block_here ?_
      refine then_n ⟨s7, vu, un, rfl, e7, hbl, ?_, g12, g16⟩
      rw [hR] at hpm
      have h0 : undW ln [] = [] := rfl
      rw [h0, List.append_nil] at hpm
      exact hpm
    · have e8 : Ext s3 s8 := extW e7 t8 (fun k hk => hk ▸ hit)
      have hkv : kv ∈ R := hP.mem_iff.2 (List.mem_cons_self ..)
      obtain ⟨e0, he0, hke⟩ := List.mem_map.1 (hR1 kv hkv)
      have hk0 : OkS hc.length kv.2.x.sent.x ∧ OkS hc.length kv.2.x.recv.x := by rw [← hke]; exact hok e0 he0
      have hlen := hline.le.1
      have ha8 := ha3.ext e8
      have hb8' := hbl.tch t8 (fun b hb e => hno (e ▸ hb))
      refine L_extract (rfl : _ = Value.tuple #[.bool true, .int .i64 kv.1, u]) (k := 0) rfl (by decide) ?_
      refine L_nil ?_
      refine then_n ?_
      refine W_seq ?_
      refine W_cond true rfl (fun _ => ?_) (fun h => by cases h)
      refine W_skip ?_
      refine then_n ?_
      refine W_block ?_
      refine W_seq ?_
      refine W_region ?_
      refine L_entry g94 hA (by decide) ?_
      intro v hv
      refine L_extract (rfl : _ = Value.tuple #[.int .i64 kv.1, v]) (k := 0) rfl (by decide) ?_
      refine L_extract (rfl : _ = Value.tuple #[.int .i64 kv.1, v]) (k := 1) rfl (by decide) ?_
      refine L_assign (rfl : _ = Value.int .i64 kv.1) (by decide) ?_
      refine L_assign (rfl : _ = v) (by decide) ?_
      refine L_nil ?_
      refine then_n ?_
      have hp := hv.toPtr
      refine W_seq_cut (fun f w => ∃ s10 : St, s10.w = w ∧ Ext s8 s10 ∧ f 114 = Value.bool (bef kv.2.x.sent.x ln && !bef kv.2.x.recv.x ln) ∧ f 7 = vm ∧ f 12 = vl ∧ f 16 = vu ∧ f 17 = Value.int .i64 kv.1 ∧ f 94 = Value.pointer (some ⟨it, 0, none⟩)) ?_ ?_
      · refine W_region ?_
        refine L_move (rfl : _ = v) (by decide) ?_
        refine L_nilCheck_ptr (rfl : _ = v) hp (by decide) ?_
        refine L_fieldAddr fld114_0 Psg.of_sent (rfl : _ = v) hp (by decide) ?_
        intro p1 hp1
        refine L_load ty112 (rfl : _ = p1) hp1 (by decide) ?_
        intro v1 hv1
        refine L_move g12 (by decide) ?_
        obtain ⟨s8a, e8a, t8a, hV8⟩ := ha8.freeze
        refine L_calls_fz calB (args2 (rfl : _ = v1) (rfl : _ = vl)) e8a t8a (fun k hk => ha8.unclaimed hk) (before_ok s8a v1 _ (hv1.mono t8a.le) vl ln hV8 (by rw [hlen]; exact hk0.1)) (by decide) ?_
        intro v2 s9a s9 e9a e9 hv2
        obtain rfl := hv2.bool
        have ha9 := ha8.ext e9
        have hp := hp.mono e9.le
        refine L_move (rfl : _ = Value.bool (bef kv.2.x.sent.x ln)) (by decide) ?_
        rcases Bool.eq_false_or_eq_true (bef kv.2.x.sent.x ln) with hb1 | hb1
        · refine L_gt (e := 106) (by rfl) (by decide) (rfl : _ = Value.bool (bef kv.2.x.sent.x ln)) hb1 ?_
          refine L_move (rfl : _ = v) (by decide) ?_
          refine L_gt (e := 106) (by rfl) (by decide) (rfl : _ = Value.bool (bef kv.2.x.sent.x ln)) hb1 ?_
          refine L_nilCheck_ptr (rfl : _ = v) hp (by decide) ?_
          refine L_gt (e := 106) (by rfl) (by decide) (rfl : _ = Value.bool (bef kv.2.x.sent.x ln)) hb1 ?_
          refine L_fieldAddr fld114_1 Psg.of_recv (rfl : _ = v) hp (by decide) ?_
          intro p2 hp2
          refine L_gt (e := 106) (by rfl) (by decide) (rfl : _ = Value.bool (bef kv.2.x.sent.x ln)) hb1 ?_
          refine L_load ty112 (rfl : _ = p2) hp2 (by decide) ?_
          intro v3 hv3
          refine L_gt (e := 106) (by rfl) (by decide) (rfl : _ = Value.bool (bef kv.2.x.sent.x ln)) hb1 ?_
          refine L_move g12 (by decide) ?_
          obtain ⟨s9b, e9b, t9b, hV9⟩ := ha9.freeze
          refine L_gt (e := 106) (by rfl) (by decide) (rfl : _ = Value.bool (bef kv.2.x.sent.x ln)) hb1 ?_
          refine L_calls_fz calB (args2 (rfl : _ = v3) (rfl : _ = vl)) e9b t9b (fun k hk => ha9.unclaimed hk) (before_ok s9b v3 _ (hv3.mono t9b.le) vl ln hV9 (by rw [hlen]; exact hk0.2)) (by decide) ?_
          intro v4 s10a s10 e10a e10 hv4
          obtain rfl := hv4.bool
          refine L_gt (e := 106) (by rfl) (by decide) (rfl : _ = Value.bool (bef kv.2.x.sent.x ln)) hb1 ?_
          refine L_not (rfl : _ = Value.bool (bef kv.2.x.recv.x ln)) (by decide) ?_
          refine L_pick_t (rfl : _ = Value.bool (bef kv.2.x.sent.x ln)) hb1 (rfl : _ = Value.bool (!bef kv.2.x.recv.x ln)) (by decide) ?_
          refine L_nil ?_
          exact then_n ⟨s10, rfl, e9.trans e10, by rw [hb1, Bool.true_and]; rfl, g7, g12, g16, rfl, g94⟩
        · refine L_gf (e := 106) (by rfl) (by decide) (rfl : _ = Value.bool (bef kv.2.x.sent.x ln)) hb1 (by decide) ?_
          refine L_gf (e := 106) (by rfl) (by decide) (rfl : _ = Value.bool (bef kv.2.x.sent.x ln)) hb1 (by decide) ?_
          refine L_gf (e := 106) (by rfl) (by decide) (rfl : _ = Value.bool (bef kv.2.x.sent.x ln)) hb1 (by decide) ?_
          refine L_gf (e := 106) (by rfl) (by decide) (rfl : _ = Value.bool (bef kv.2.x.sent.x ln)) hb1 (by decide) ?_
          refine L_gf (e := 106) (by rfl) (by decide) (rfl : _ = Value.bool (bef kv.2.x.sent.x ln)) hb1 (by decide) ?_
          refine L_gf (e := 106) (by rfl) (by decide) (rfl : _ = Value.bool (bef kv.2.x.sent.x ln)) hb1 (by decide) ?_
          refine L_gf (e := 106) (by rfl) (by decide) (rfl : _ = Value.bool (bef kv.2.x.sent.x ln)) hb1 (by decide) ?_
          refine L_pick_f (rfl : _ = Value.bool (bef kv.2.x.sent.x ln)) hb1 (rfl : _ = Value.bool false) (by decide) ?_
          refine L_nil ?_
          exact then_n ⟨s9, rfl, e9, by rw [hb1, Bool.false_and]; rfl, g7, g12, g16, rfl, g94⟩
      clear g7 g12 g16 g94
      rintro f w ⟨s10, rfl, e10, g114, g7, g12, g16, g17, g94⟩
      have hb10 := hb8'.ext e10
      have hlen2 := hP.length_eq
      have hpu := undW_perm (line := ln) hP
      have hI10 := hA.iter.ext e10
      have hul : un.length ≤ q.1.length := by
        have h5 := hpm.length_eq
        have h6 : (undW ln (rP q.1)).length ≤ (rP q.1).length := by unfold undW; rw [List.length_map]; exact List.length_filter_le _ _
        rw [List.length_append] at h5
        omega
      refine W_cond _ g114 (fun hb => ?_) (fun hb => ?_)
      · refine W_region ?_
        refine L_move g16 (by decide) ?_
        refine L_move g17 (by decide) ?_
        refine L_buildSlice (s := s10) (xs := ([kv.1] : List Int)) Try.underlying40 tyz3 (Parts_cons rfl (rfl : _ = Value.int .i64 kv.1) Parts_nil) (Vs.cons (Vint (x := kv.1)) Vs.nil) rfl (by decide) (by decide) ?_
        intro s11 vb e11 _ hv11
        refine L_append (s := s11) (xs := un) (B := s3.w.heap.size) Try.underlying40 tyz3 (rfl : _ = vu) (rfl : _ = vb) (hb10.ext e11) ((e8.trans e10).trans e11).size hv11 (by simp only [List.length_singleton]; omega) (by simp only [List.length_singleton]; omega) (by decide) ?_
        intro vu2 s12 g12s
        refine L_assign (rfl : _ = vu2) (by decide) ?_
        refine L_nil ?_
        refine block_n ?_
        have hI11 := hI10.ext e11
        refine then_n ⟨R'.length, by rw [← hk, hlen2]; exact Nat.lt_succ_self _, s12, vu2, un ++ [kv.1], R', rfl, g12s.ext (hb10.ext e11) ((e8.trans e10).trans e11) (Nat.le_refl _), g12s.bld, hI11.tch g12s.tch hno, rfl, fun e he => hR1 e (hP.mem_iff.2 (List.mem_cons_of_mem _ he)), ?_, fun x => ?_, g7, g12, rfl, g94⟩
        · have h7 : undW ln (kv :: R') = kv.1 :: undW ln R' := by unfold undW; rw [List.filter_cons_of_pos (p := fun e : Int × Ref Psg => bef e.2.x.sent.x ln && !bef e.2.x.recv.x ln) hb]; rfl
          rw [h7] at hpu
          rw [List.append_assoc]
          exact ((hpu.symm).append_left un).trans hpm
        · rcases g12s.own it x with h | h
          · exact hno h
          · have := hI11.lt; omega
      · refine W_skip ?_
        refine block_n ?_
        refine then_n ⟨R'.length, by rw [← hk, hlen2]; exact Nat.lt_succ_self _, s10, vu, un, R', rfl, e8.trans e10, hb10, hI10, rfl, fun e he => hR1 e (hP.mem_iff.2 (List.mem_cons_of_mem _ he)), ?_, hno, g7, g12, g16, g94⟩
        have h7 : undW ln (kv :: R') = undW ln R' := by unfold undW; rw [List.filter_cons_of_neg (p := fun e : Int × Ref Psg => bef e.2.x.sent.x ln && !bef e.2.x.recv.x ln) (by rw [hb]; exact Bool.false_ne_true)]
        rw [h7] at hpu
        exact ((hpu.symm).append_left un).trans hpm
  clear g7 g12
  rintro f w ⟨s4, vu, un, rfl, e4, hbl, hperm, g12, g16⟩
  obtain ⟨s5, e5w, e5, ha5⟩ := Bld.thaw flat3 e4 hbl
  rw [← e5w]
  have hul : un.length ≤ q.1.length := by
    have h5 := hperm.length_eq
    have h6 : (undW ln (rP q.1)).length ≤ (rP q.1).length := by unfold undW; rw [List.length_map]; exact List.length_filter_le _ _
    omega
  refine W_seq ?_
  refine W_region ?_
  refine L_move g16 (by decide) ?_
  refine L_calls' calS (args1 (rfl : _ = vu)) (sort_ok s5 _ vu un ha5 (by omega)) (by decide) ?_
  rintro e w' ⟨s6, rfl, rfl, t6, ha6⟩
  refine ⟨_, rfl, ?_⟩
  refine L_nil ?_
  refine then_n ?_
  refine W_seq ?_
  refine W_region ?_
  refine L_move g12 (by decide) ?_
  refine L_move g16 (by decide) ?_
  refine L_assign (rfl : _ = vl) (by decide) ?_
  refine L_assign (rfl : _ = vu) (by decide) ?_
  refine L_assign (rfl : _ = Value.int .i64 0) (by decide) ?_
  refine L_nil ?_
  refine then_n ?_
  refine W_ret ?_
  have hdis : ∀ b, own vl b → ¬ own vu b := fun b h k => by
    have h1 := (ha3.lt h).2
    have h2 := (ha5.lt k).1
    omega
  have hl6 := (ha3.ext e5).tch t6 hdis
  obtain ⟨s7, w7, t7, hV7⟩ := hl6.freeze
  obtain ⟨s8, w8, t8, hV8⟩ := (ha6.tch t7 (fun b h k => hdis b k h)).freeze
  rw [sort_perm hperm] at hV8
  have E3 := e1.trans e3
  have E6 : Ext s0 s6 := extW (E3.trans e5) t6 (fun k hk => Nat.le_trans E3.size (ha5.lt hk).1)
  have E7 : Ext s0 s7 := extW E6 t7 (fun k hk => Nat.le_trans e1.size (ha3.lt hk).1)
  have E8 : Ext s0 s8 := extW E7 t8 (fun k hk => Nat.le_trans E3.size (ha5.lt hk).1)
  exact done3 (Or.inl rfl) Try.results19 rfl rfl rfl ⟨_, s8, rfl, w8.trans w7, E8, _, _, _, rfl, hV7.mono t8.le, hV8, Vint⟩

end Go.Arm
