/- Maps with integer keys. -/
import Derived.Test.YtmojccilbgjngaaCoreD
import Derived.MapKept
namespace Go.Arm
open Go Go.RowKit

section
variable {β : Type} [Rep β]
def mget {β : Type} (m : List (Int × β)) (k : Int) : Option β := (m.find? (fun e => e.1 == k)).map (·.2)
def mset {β : Type} (m : List (Int × β)) (k : Int) (v : β) : List (Int × β) :=
 if m.any (fun e => e.1 == k) then m.map (fun e => if e.1 == k then (k, v) else e) else m ++ [(k, v)]

structure MapRel (s : St) (es : Array MapEntry) (clock : Nat) (m : List (Int × β)) : Prop where
 len : es.size = m.length
 ent : ∀ i (h : i < m.length) (h' : i < es.size), es[i].key = .int .i64 m[i].1 ∧ V s es[i].val m[i].2
 born : ∀ i (h : i < es.size), es[i].born < clock
 dist : ∀ i j (h : i < es.size) (h' : j < es.size), es[i].born = es[j].born → i = j
 keys : (m.map (·.1)).Nodup

theorem MapRel.mono {s s' : St} {es : Array MapEntry} {clock : Nat} {m : List (Int × β)} (h : MapRel s es clock m) (l : Le s s') : MapRel s' es clock m :=
 ⟨h.len, fun i a b => ⟨(h.ent i a b).1, (h.ent i a b).2.mono l⟩, h.born, h.dist, h.keys⟩

omit [Rep β] in
theorem findNow_int {k : Int} : ∀ (es : List MapEntry) (m : List (Int × β)) (j : Nat), es.length = m.length → (∀ i (h : i < m.length) (h' : i < es.length), es[i].key = .int .i64 m[i].1) →
  (mget m k = none ∧ m.any (fun e => e.1 == k) = false ∧ Instr.findNow (.int .i64) (.int .i64 k) es j = some none) ∨
  ∃ i, ∃ (h : i < m.length) (h' : i < es.length), m[i].1 = k ∧ (∀ q (hq : q < i), (m[q]'(by omega)).1 ≠ k) ∧ mget m k = some m[i].2 ∧ m.any (fun e => e.1 == k) = true ∧ Instr.findNow (.int .i64) (.int .i64 k) es j = some (some (j + i, es[i].val))
 | [], [], j, _, _ => .inl ⟨rfl, rfl, rfl⟩
 | [], _ :: _, j, h, _ => by simp at h
 | _ :: _, [], j, h, _ => by simp at h
 | e :: es, x :: m, j, hl, hk => by
  have h0 := hk 0 (by simp) (by simp)
  simp only [List.getElem_cons_zero] at h0
  by_cases hx : x.1 = k
  ·refine .inr ⟨0, by simp, by simp, hx, fun q hq => by omega, ?_, ?_, ?_⟩
   ·simp [mget, hx]
   ·simp [hx]
   ·simp [Instr.findNow, Instr.sameNow, h0, hx]
  ·have hs : Instr.sameNow (.int .i64) (.int .i64 k) e.key = some false := by
    rw [h0]; simp [Instr.sameNow]; exact fun h => hx h.symm
   rcases findNow_int es m (j + 1) (by simpa using hl) (fun i h h' => by have := hk (i + 1) (by simpa using h) (by simpa using h'); simpa using this) with ⟨h1, h2, h3⟩ | ⟨i, h, h', h1, h2, h3, h4, h5⟩
   ·refine .inl ⟨?_, ?_, ?_⟩
    ·simpa [mget, hx] using h1
    ·simpa [hx] using h2
    ·rw [Instr.findNow, hs]; exact h3
   ·refine .inr ⟨i + 1, by simpa using h, by simpa using h', by simpa using h1, ?_, ?_, ?_, ?_⟩
    ·intro q hq
     cases q with
     | zero => exact hx
     | succ q => simpa using h2 q (by omega)
    ·have := h3
     simp only [mget] at this ⊢
     rw [List.find?_cons_of_neg (by simpa using hx)]
     simpa using this
    ·simp only [List.any_cons, h4, Bool.or_true]
    ·rw [Instr.findNow, hs, h5]
     simp; omega

def MapX (s : St) (b : Nat) (m : List (Int × β)) : Prop := ∃ es clock, s.w.heap[b]? = some (.map es clock) ∧ s.g b = 0 ∧ MapRel s es clock m
theorem MapX.lt {s : St} {b : Nat} {m : List (Int × β)} (h : MapX s b m) : b < s.w.heap.size := by obtain ⟨es, c, h, _⟩ := h; exact (Array.getElem?_eq_some_iff.1 h).1
theorem MapX.g {s : St} {b : Nat} {m : List (Int × β)} (h : MapX s b m) : s.g b = 0 := by obtain ⟨es, c, _, h, _⟩ := h; exact h
theorem MapX.tch {s s' : St} {b : Nat} {m : List (Int × β)} {M : Nat → Prop} (h : MapX s b m) (t : Tch M s s') (hb : ¬ M b) : MapX s' b m := by
 have hl := h.lt
 obtain ⟨es, c, h1, h2, h3⟩ := h
 exact ⟨es, c, (t.block b hl hb).trans h1, (t.g b hl hb).trans h2, h3.mono t.le⟩
theorem MapX.ext {s s' : St} {b : Nat} {m : List (Int × β)} (h : MapX s b m) (t : Ext s s') : MapX s' b m := h.tch t (fun x => x)

structure GMap (β : Type) where
 l : List (Int × β)
def MapV (s : St) (v : Value) (m : List (Int × β)) : Prop :=
 (v = .map none ∧ m = []) ∨ ∃ b es clock, v = .map (some b) ∧ s.w.heap[b]? = some (.map es clock) ∧ 0 < s.g b ∧ MapRel s es clock m
theorem MapV.mono {s s' : St} {v : Value} {m : List (Int × β)} (h : MapV s v m) (l : Le s s') : MapV s' v m := by
 rcases h with h | ⟨b, es, c, h1, h2, h3, h4⟩
 ·exact .inl h
 ·exact .inr ⟨b, es, c, h1, (l.obj b h3 (fun c e z he => by rw [h2] at he; cases he)).trans h2, Nat.lt_of_lt_of_le h3 (l.g b), h4.mono l⟩
instance : Rep (GMap β) where
 size := 1
 agg := false
 rel s cs m := ∃ v, cs = [v] ∧ MapV s v m.l
 len := by rintro s cs r ⟨v, rfl, _⟩; rfl
 mono := by rintro s s' cs r l ⟨v, e, h⟩; exact ⟨v, e, h.mono l⟩
 one := by
  rintro s cs r ⟨v, rfl, h⟩ u hu
  simp at hu; subst hu
  rcases h with ⟨rfl, _⟩ | ⟨b, es, c, rfl, _⟩ <;> rfl
 single _ := rfl
theorem MapV.toV {s : St} {v : Value} {m : List (Int × β)} (h : MapV s v m) : V s v (⟨m⟩ : GMap β) := ⟨[v], ⟨v, rfl, h⟩, rfl⟩
theorem V.toMap {s : St} {v : Value} {m : GMap β} (h : V s v m) : MapV s v m.l := by obtain ⟨cs, ⟨u, rfl, h⟩, rfl⟩ := h; exact h

theorem MapX.freeze {s : St} {b : Nat} {m : List (Int × β)} (h : MapX s b m) : ∃ s', s'.w = s.w ∧ Tch (fun k => k = b) s s' ∧ MapV s' (.map (some b)) m := by
 have hl := h.lt
 obtain ⟨es, c, h1, h2, h3⟩ := h
 have ht : Tch (fun k => k = b) s (s.claim b 1 hl) := by
  refine ⟨rfl, rfl, rfl, Nat.le_refl _, fun _ _ _ => rfl, fun k _ nk => if_neg nk, fun k => ?_, fun _ _ _ => rfl, fun _ _ _ => rfl⟩
  show s.g k ≤ if k = b then 1 else s.g k
  split
  ·subst_vars; rw [h2]; exact Nat.zero_le _
  ·exact Nat.le_refl _
 exact ⟨s.claim b 1 hl, rfl, ht, .inr ⟨b, es, c, rfl, h1, by show 0 < if b = b then 1 else s.g b; rw [if_pos rfl]; exact Nat.one_pos, h3.mono ht.le⟩⟩
end

section
variable {P : Program} {n : Nat} {Q : Post} {f : Fr} {w : World} {ops : Array Oper} {rest : List Oper} {s : St}
variable {d : Nat} {ty : TypeId} {pos : String} {aft : Array Edge} {β : Type} [Rep β]

theorem L_makeMap {T : TypeId} (hd : d < n)
  (h : ∀ s' b, Ext s s' → s.w.heap.size ≤ b → MapX s' b ([] : List (Int × β)) → L P n ops Q rest (upd f d (.map (some b))) s'.w) :
  L P n ops Q (⟨some d, .makeMap T none, ty, pos, aft, none⟩ :: rest) f s.w := by
 refine L_val (v := .map (some s.w.heap.size)) rfl (fun k e => by cases e; exact hd) (w' := s.w.alloc (.map #[] 0)) (by simp [execOp, Instr.makeMap]) ?_
 refine h (s.new (.map #[] 0) 0) s.w.heap.size (Ext.new _ _ _) (Nat.le_refl _) ⟨#[], 0, heap_alloc_new s.w _, if_pos rfl, rfl, fun i h => by simp at h, fun i h => by simp at h, fun i j h => by simp at h, by simp⟩

def St.setMap (s : St) (b : Nat) (es : Array MapEntry) (c : Nat) : St := ⟨{ s.w with heap := s.w.heap.setIfInBounds b (.map es c) }, s.g, fun k hk => s.ok k (by simpa using hk)⟩
theorem Tch.setMap {b : Nat} {es : Array MapEntry} {c : Nat} {o : Obj} (ho : s.w.heap[b]? = some o) (hg : s.g b = 0) : Tch (fun k => k = b) s (s.setMap b es c) := by
 have hoth : ∀ k, k ≠ b → (s.w.heap.setIfInBounds b (.map es c))[k]? = s.w.heap[k]? := fun k hk => by rw [Array.getElem?_setIfInBounds, if_neg (fun e => hk e.symm)]
 refine ⟨rfl, rfl, rfl, by simp [St.setMap], fun k _ nk => hoth k nk, fun _ _ _ => rfl, fun _ => Nat.le_refl _, fun k o hlt => ?_, fun k hk _ => ?_⟩
 ·by_cases e : k = b
  ·subst e; rw [hg] at hlt; omega
  ·simp only [World.cell?, St.setMap]; rw [hoth k e]
 ·by_cases e : k = b
  ·subst e; rw [hg] at hk; omega
  ·exact hoth k e

theorem mset_keys {β : Type} (m : List (Int × β)) (k : Int) (v : β) (h : (m.map (·.1)).Nodup) : ((mset m k v).map (·.1)).Nodup := by
 unfold mset
 split
 ·have : (m.map (fun e => if e.1 == k then (k, v) else e)).map (·.1) = m.map (·.1) := by
   rw [List.map_map]; apply List.map_congr_left
   intro e _
   simp only [Function.comp]
   split
   ·rename_i h; simpa using (by simpa using h : e.1 = k).symm
   ·rfl
  rw [this]; exact h
 ·rename_i hn
  simp only [List.map_append, List.map_cons, List.map_nil]
  rw [List.nodup_append]
  refine ⟨h, by simp, ?_⟩
  intro a ha b hb e
  simp only [List.mem_singleton] at hb
  subst hb; subst e
  obtain ⟨x, hx, rfl⟩ := List.mem_map.1 ha
  apply hn
  rw [List.any_eq_true]
  exact ⟨x, hx, by simp⟩

theorem L_mapUpdate {T K E : TypeId} {x k y : Operand} {b : Nat} {m : List (Int × β)} {i : Int} {v : Value} {z : β} (hT : P.underlying T = some (.map K E)) (hK : P.underlying K = some (.int .i64))
  (hx : ev f x = .map (some b)) (hk : ev f k = .int .i64 i) (hy : ev f y = v) (hM : MapX s b m) (hV : V s v z)
  (h : ∀ s', Tch (fun k => k = b) s s' → MapX s' b (mset m i z) → L P n ops Q rest f s'.w) :
  L P n ops Q (⟨none, .mapUpdate T x k y, ty, pos, aft, none⟩ :: rest) f s.w := by
 obtain ⟨es, c, h1, h2, h3⟩ := hM
 have hck : (Instr.checkKey false 10000 K (.int .i64 i)).run P s.w = .ok () s.w := MapKept.run_checkKey hK (by simp [MapKept.IsKey]) false 9999
 have hkeys : ∀ q (h : q < m.length) (h' : q < es.toList.length), es.toList[q].key = .int .i64 m[q].1 := fun q h h' => by
  have := (h3.ent q h (by simpa using h')).1
  simpa using this
 rcases findNow_int (k := i) es.toList m 0 (by simpa using h3.len) hkeys with ⟨g1, g2, g3⟩ | ⟨q, hq, hq', g1, g2, g3, g4, g5⟩
 ·have ht := Tch.setMap (s := s) (es := es.push { key := .int .i64 i, val := v, born := c }) (c := c + 1) h1 h2
  refine L_skip rfl rfl (w' := (s.setMap b (es.push { key := .int .i64 i, val := v, born := c }) (c + 1)).w) ?_ (h _ ht ⟨es.push { key := .int .i64 i, val := v, born := c }, c + 1, ?_, h2, ?_⟩)
  ·simp [execOp, Instr.mapUpdate, run_underlying hT, hx, hk, hy, MapKept.run_getObj_map h1, MapKept.run_setObj_map _ h1, hck, Instr.findKey, run_underlying hK, g3, St.setMap]
  ·have := (Array.getElem?_eq_some_iff.1 h1).1
   simp [St.setMap, this]
  ·have hms : mset m i z = m ++ [(i, z)] := by unfold mset; rw [if_neg (by simp [g2])]
   refine ⟨by simp [hms, h3.len], ?_, ?_, ?_, by exact mset_keys m i z h3.keys⟩
   ·rw [hms]
    intro q hq hq'
    simp only [Array.size_push] at hq'
    by_cases hlt : q < m.length
    ·rw [Array.getElem_push_lt (by rw [h3.len]; exact hlt), List.getElem_append_left hlt]
     have := h3.ent q hlt (by rw [h3.len]; exact hlt)
     exact ⟨this.1, this.2.mono ht.le⟩
    ·have hqe : q = es.size := by simp at hq; rw [h3.len]; omega
     subst hqe
     have hl := h3.len
     rw [Array.getElem_push_eq, List.getElem_append_right (by omega)]
     simp only [h3.len, Nat.sub_self, List.getElem_cons_zero]
     exact ⟨trivial, hV.mono ht.le⟩
   ·intro q hq
    simp only [Array.size_push] at hq
    by_cases hlt : q < es.size
    ·rw [Array.getElem_push_lt hlt]; have := h3.born q hlt; omega
    ·have : q = es.size := by omega
     subst this; rw [Array.getElem_push_eq]; simp
   ·intro p q hp hq e
    simp only [Array.size_push] at hp hq
    by_cases hpl : p < es.size
    ·by_cases hql : q < es.size
     ·rw [Array.getElem_push_lt hpl, Array.getElem_push_lt hql] at e; exact h3.dist p q hpl hql e
     ·have hqe : q = es.size := by omega
      subst hqe
      rw [Array.getElem_push_lt hpl, Array.getElem_push_eq] at e
      have := h3.born p hpl; simp only at e; omega
    ·have hpe : p = es.size := by omega
     by_cases hql : q < es.size
     ·subst hpe
      rw [Array.getElem_push_lt hql, Array.getElem_push_eq] at e
      have := h3.born q hql; simp only at e; omega
     ·omega
 ·simp only [Nat.zero_add] at g5
  have hqs : q < es.size := by simpa using hq'
  have hkey : es[q].key = .int .i64 i := by rw [(h3.ent q hq hqs).1, g1]
  have ht := Tch.setMap (s := s) (es := es.modify q fun e => { e with key := .int .i64 i, val := v }) (c := c) h1 h2
  refine L_skip rfl rfl (w' := (s.setMap b (es.modify q fun e => { e with key := .int .i64 i, val := v }) c).w) ?_ (h _ ht ⟨es.modify q fun e => { e with key := .int .i64 i, val := v }, c, ?_, h2, ?_⟩)
  ·have hst : (Instr.keyThatStays (((es[q]?).map (·.key)).getD (.int .i64 i)) (.int .i64 i)).run P s.w = .ok (.int .i64 i) s.w := by
    have hsb : Instr.sameBits 10000 (.int .i64 i) (.int .i64 i) = true := by rw [Instr.sameBits]; simp
    simp [Array.getElem?_eq_getElem hqs, hkey, Instr.keyThatStays, hsb]
   simp [execOp, Instr.mapUpdate, run_underlying hT, hx, hk, hy, MapKept.run_getObj_map h1, MapKept.run_setObj_map _ h1, hck, Instr.findKey, run_underlying hK, g5, hst, St.setMap]
  ·have := (Array.getElem?_eq_some_iff.1 h1).1
   simp [St.setMap, this]
  ·have hms : mset m i z = m.map (fun e => if e.1 == i then (i, z) else e) := by unfold mset; rw [if_pos (by simp [g4])]
   refine ⟨by simp [hms, h3.len], ?_, ?_, ?_, by exact mset_keys m i z h3.keys⟩
   ·rw [hms]
    intro p hp hp'
    simp only [List.length_map] at hp
    simp only [Array.size_modify] at hp'
    rw [Array.getElem_modify, List.getElem_map]
    have hen := h3.ent p hp hp'
    by_cases e : q = p
    ·subst e
     rw [if_pos rfl, if_pos (by simp [g1])]
     exact ⟨rfl, hV.mono ht.le⟩
    ·rw [if_neg e]
     have hne : m[p].1 ≠ i := by
      intro he
      have hn := List.pairwise_iff_getElem.1 h3.keys
      rcases Nat.lt_or_gt_of_ne e with hlt | hlt
      ·exact hn q p (by simpa using hq) (by simpa using hp) hlt (by simp [g1, he])
      ·exact hn p q (by simpa using hp) (by simpa using hq) hlt (by simp [g1, he])
     rw [if_neg (by simpa using hne)]
     exact ⟨hen.1, hen.2.mono ht.le⟩
   ·intro p hp
    simp only [Array.size_modify] at hp
    rw [Array.getElem_modify]
    split
    ·exact h3.born p hp
    ·exact h3.born p hp
   ·intro p r hp hr e
    simp only [Array.size_modify] at hp hr
    rw [Array.getElem_modify, Array.getElem_modify] at e
    refine h3.dist p r hp hr ?_
    split at e <;> split at e <;> exact e


theorem run_lookup_map {T K E : TypeId} {es : Array MapEntry} {c b : Nat} {m : List (Int × β)} {i : Int} {zv : Value} {z0 : β} {ok : Bool} (hT : P.underlying T = some (.map K E)) (hK : P.underlying K = some (.int .i64))
  (hz : (P.info? E).map (·.zero) = some (some zv)) (hz0 : V s zv z0) (hb : s.w.heap[b]? = some (.map es c)) (hM : MapRel s es c m) :
  ∃ v, V s v ((mget m i).getD z0) ∧ (Instr.lookup T (.map (some b)) (.int .i64 i) ok).run P s.w = .ok (if ok then .tuple #[v, .bool (mget m i).isSome] else v) s.w := by
 have hck : (Instr.checkKey es.isEmpty 10000 K (.int .i64 i)).run P s.w = .ok () s.w := MapKept.run_checkKey hK (by simp [MapKept.IsKey]) es.isEmpty 9999
 have hkeys : ∀ q (h : q < m.length) (h' : q < es.toList.length), es.toList[q].key = .int .i64 m[q].1 := fun q h h' => by
  have := (hM.ent q h (by simpa using h')).1
  simpa using this
 obtain ⟨inf, hi1, hi2⟩ := Option.map_eq_some_iff.1 hz
 rcases findNow_int (k := i) es.toList m 0 (by simpa using hM.len) hkeys with ⟨g1, g2, g3⟩ | ⟨q, hq, hq', g1, g2, g3, g4, g5⟩
 ·refine ⟨zv, by rw [g1]; exact hz0, ?_⟩
  simp [Instr.lookup, run_underlying hT, MapKept.run_getObj_map hb, hck, Instr.findKey, run_underlying hK, g3, zeroValue, typeInfo, hi1, hi2, g1]
 ·refine ⟨es[q]'(by simpa using hq') |>.val, by rw [g3]; exact (hM.ent q hq (by simpa using hq')).2, ?_⟩
  simp [Instr.lookup, run_underlying hT, MapKept.run_getObj_map hb, hck, Instr.findKey, run_underlying hK, g5, g3]

theorem run_lookup_nil {T K E : TypeId} {i : Int} {zv : Value} {ok : Bool} (hT : P.underlying T = some (.map K E)) (hK : P.underlying K = some (.int .i64))
  (hz : (P.info? E).map (·.zero) = some (some zv)) : (Instr.lookup T (.map none) (.int .i64 i) ok).run P w = .ok (if ok then .tuple #[zv, .bool false] else zv) w := by
 have hck : (Instr.checkKey true 10000 K (.int .i64 i)).run P w = .ok () w := MapKept.run_checkKey hK (by simp [MapKept.IsKey]) true 9999
 obtain ⟨inf, hi1, hi2⟩ := Option.map_eq_some_iff.1 hz
 simp [Instr.lookup, run_underlying hT, hck, Instr.findKey, run_underlying hK, Instr.findNow, zeroValue, typeInfo, hi1, hi2]

theorem L_lookup {T K E : TypeId} {x k : Operand} {v zv : Value} {m : List (Int × β)} {i : Int} {z0 : β} (hT : P.underlying T = some (.map K E)) (hK : P.underlying K = some (.int .i64))
  (hz : (P.info? E).map (·.zero) = some (some zv)) (hz0 : V s zv z0) (hx : ev f x = v) (hk : ev f k = .int .i64 i) (hM : MapV s v m) (hd : d < n)
  (h : ∀ v, V s v ((mget m i).getD z0) → L P n ops Q rest (upd f d v) s.w) : L P n ops Q (⟨some d, .lookup T x k false, ty, pos, aft, none⟩ :: rest) f s.w := by
 rcases hM with ⟨rfl, rfl⟩ | ⟨b, es, c, rfl, h1, h2, h3⟩
 ·refine L_val (v := zv) rfl (fun k e => by cases e; exact hd) ?_ (h _ hz0)
  simp [execOp, hx, hk, run_lookup_nil hT hK hz]
 ·obtain ⟨u, hu, hr⟩ := run_lookup_map (ok := false) (i := i) hT hK hz hz0 h1 h3
  refine L_val (v := u) rfl (fun k e => by cases e; exact hd) ?_ (h _ hu)
  simp [execOp, hx, hk, hr]

theorem L_lookup_ok {T K E : TypeId} {x k : Operand} {v zv : Value} {m : List (Int × β)} {i : Int} {z0 : β} (hT : P.underlying T = some (.map K E)) (hK : P.underlying K = some (.int .i64))
  (hz : (P.info? E).map (·.zero) = some (some zv)) (hz0 : V s zv z0) (hx : ev f x = v) (hk : ev f k = .int .i64 i) (hM : MapV s v m) (hd : d < n)
  (h : ∀ v, V s v ((mget m i).getD z0) → L P n ops Q rest (upd f d (.tuple #[v, .bool (mget m i).isSome])) s.w) : L P n ops Q (⟨some d, .lookup T x k true, ty, pos, aft, none⟩ :: rest) f s.w := by
 rcases hM with ⟨rfl, rfl⟩ | ⟨b, es, c, rfl, h1, h2, h3⟩
 ·refine L_val (v := .tuple #[zv, .bool false]) rfl (fun k e => by cases e; exact hd) ?_ (h _ hz0)
  simp [execOp, hx, hk, run_lookup_nil hT hK hz]
 ·obtain ⟨u, hu, hr⟩ := run_lookup_map (ok := true) (i := i) hT hK hz hz0 h1 h3
  refine L_val (v := .tuple #[u, .bool (mget m i).isSome]) rfl (fun k e => by cases e; exact hd) ?_ (h _ hu)
  simp [execOp, hx, hk, hr]

theorem L_lookupX_ok {T K E : TypeId} {x k : Operand} {zv : Value} {b : Nat} {m : List (Int × β)} {i : Int} {z0 : β} (hT : P.underlying T = some (.map K E)) (hK : P.underlying K = some (.int .i64))
  (hz : (P.info? E).map (·.zero) = some (some zv)) (hz0 : V s zv z0) (hx : ev f x = .map (some b)) (hk : ev f k = .int .i64 i) (hM : MapX s b m) (hd : d < n)
  (h : ∀ v, V s v ((mget m i).getD z0) → L P n ops Q rest (upd f d (.tuple #[v, .bool (mget m i).isSome])) s.w) : L P n ops Q (⟨some d, .lookup T x k true, ty, pos, aft, none⟩ :: rest) f s.w := by
 obtain ⟨es, c, h1, h2, h3⟩ := hM
 obtain ⟨u, hu, hr⟩ := run_lookup_map (ok := true) (i := i) hT hK hz hz0 h1 h3
 refine L_val (v := .tuple #[u, .bool (mget m i).isSome]) rfl (fun k e => by cases e; exact hd) ?_ (h _ hu)
 simp [execOp, hx, hk, hr]
end
end Go.Arm
