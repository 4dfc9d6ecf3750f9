/- Traces and profiles, as data. -/
import Derived.Test.YtjhbbdfbngbjcaaGreatDoorZs
namespace Go.Arm
noncomputable section
open Go Go.X
def ups {ρ α : Type} [DecidableEq ρ] (f : ρ → α) (r : ρ) (x : α) : ρ → α := fun r' => if r' = r then x else f r'
theorem ups_at {ρ α : Type} [DecidableEq ρ] (f : ρ → α) (r : ρ) (x : α) : ups f r x r = x := by unfold ups; rw [if_pos rfl]
theorem ups_ne {ρ α : Type} [DecidableEq ρ] (f : ρ → α) {r r' : ρ} (x : α) (h : r' ≠ r) : ups f r x r' = f r' := by unfold ups; rw [if_neg h]
def Ws (h : AH) (k : Nat) (v : Value) (n : Nat) (cs : List Value) : Prop :=
 cs.length = n * k ∧ ((n = 0 ∧ ∃ a c, v = .slice a 0 c ∧ (a = none → c = 0) ∧ ∀ q, a = some q → q.block < h.next) ∨
  ∃ b o c cc nn op, 0 < n ∧ c ≠ 0 ∧ v = .slice (some ⟨b, o, none⟩) n c ∧ b < h.next ∧ h.m.get b = some (.cells cc nn op false) ∧ o + n * k ≤ nn ∧ ∀ j, j < cs.length → cc.get (o + j) = cs[j]?)
section
variable {P : Program} {h h' : AH} {S : Nat → Prop} {k n b : Nat} {v : Value} {cs : List Value} {T el : TypeId}
theorem Ws.sd (H : Ws h k v n cs) : Sd h k v n cs := by
 refine ⟨H.1, ?_⟩
 rcases H.2 with hl | ⟨b, o, c, cc, nn, op, h0, h1, e, h2, h3, h4, h5⟩
 · exact .inl hl
 · exact .inr ⟨b, o, c, cc, nn, op, false, h0, h1, e, h2, h3, h4, h5⟩
theorem Ws.sm (H : Ws h k v n cs) (s : Sm S h h') (hb : ∀ b, vb v = some b → ¬ S b) : Ws h' k v n cs := by
 obtain ⟨hl, hs⟩ := H
 refine ⟨hl, ?_⟩
 rcases hs with ⟨h0, a, c, e, h1, h2⟩ | ⟨b, o, c, cc, nn, op, h0, h1, rfl, h2, h3, h4, h5⟩
 · exact .inl ⟨h0, a, c, e, h1, fun q hq => Nat.lt_of_lt_of_le (h2 q hq) s.nx⟩
 · exact .inr ⟨b, o, c, cc, nn, op, h0, h1, rfl, Nat.lt_of_lt_of_le h2 s.nx, (s.get b h2 (hb b rfl)).trans h3, h4, h5⟩
theorem Gr.ws (hg : Gr h k v n cs) : Ws h k v n cs := by
 obtain ⟨hl, hg⟩ := hg
 refine ⟨hl, ?_⟩
 rcases hg with ⟨h0, rfl | ⟨a, rfl, ha⟩⟩ | ⟨b, o, cc, nn, rfl, h2, h3, h4, h5, h6⟩
 · exact .inl ⟨h0, none, 0, rfl, fun _ => rfl, (fun q hq => by cases hq)⟩
 · exact .inl ⟨h0, some a, 0, rfl, (fun h => by cases h), (fun q hq => by cases hq; exact ha)⟩
 · by_cases hn : n = 0
   · subst hn
     exact .inl ⟨rfl, _, _, rfl, (fun h => by cases h), (fun q hq => by cases hq; exact h2)⟩
   · exact .inr ⟨b, o, _, cc, nn, k, by omega, open_ne, rfl, h2, h3, h5, h6⟩
theorem Cl.ws (hc : Cl h b cs) (hn : cs.length = n) : Ws h 1 (.slice (some ⟨b, 0, none⟩) n n) n cs := by
 refine ⟨by omega, ?_⟩
 obtain ⟨h1, c, op, h2, h3⟩ := hc
 by_cases h0 : n = 0
 · exact .inl ⟨h0, some ⟨b, 0, none⟩, n, by rw [h0], (fun e => by cases e), (fun q hq => by cases hq; exact h1)⟩
 · exact .inr ⟨b, 0, n, c, cs.length, op, by omega, h0, rfl, h1, h2, by omega, fun j hj => by rw [Nat.zero_add]; exact h3 j hj⟩
theorem Ws.elem {i : Nat} (hT : P.underlying T = some (.slice el)) (hk : szOf P el = some 1) (hs : scalT P el = true) (hg : Ws h 1 v n cs) (hi : i < n) (kd : IntKind) :
   ∃ p x, aIndex P T v (.int kd i) = some (.pointer (some p)) ∧ cs[i]? = some x ∧ aLoad P el p h = some x ∧ vb v = some p.block ∧
     ∀ u, cellsL u = [u] → u.oneCell' = true → ∃ h', aStore P el p u h = some h' ∧ Ws h' 1 v n (cs.set i u) ∧ Sm (fun b => vb v = some b) h h' ∧ h'.next = h.next := by
 obtain ⟨hl, hg⟩ := hg
 rcases hg with ⟨h0, _⟩ | ⟨b, o, c, cc, nn, op, h0, h1, rfl, h2, h3, h5, h6⟩
 · omega
 · have hil : i < cs.length := by omega
   refine ⟨⟨b, o + i, none⟩, cs[i], ?_, List.getElem?_eq_getElem hil, ?_, rfl, fun u hu hu1 => ?_⟩
   · unfold aIndex
     simp only [hT, hk]
     rw [if_pos ⟨h1, by omega, by omega⟩]
     simp
   · unfold scalT at hs
     cases hu : P.underlying el with
     | none => rw [hu] at hs; cases hs
     | some d =>
       rw [hu] at hs
       have hs : isAg d = false := by simpa using hs
       unfold aLoad
       simp only [hu, hs]
       show h.cell _ = _
       unfold AH.cell
       simp only [h3]
       rw [if_pos (by omega), h6 i (by omega), List.getElem?_eq_getElem hil]
   · refine ⟨⟨h.m.set b (some (.cells (cc.set (o + i) (some u)) nn op false)), h.next⟩, ?_, ⟨by rw [List.length_set]; exact hl, .inr ⟨b, o, c, cc.set (o + i) (some u), nn, op, h0, h1, rfl, h2, ?_, h5, fun j hj => ?_⟩⟩, ⟨Nat.le_refl _, fun x hx hn => ?_⟩, rfl⟩
     · unfold aStore
       simp only [hk, hu, List.length_singleton, if_true]
       unfold AH.setcs
       rw [if_pos hu1]
       dsimp only
       rw [Nat.add_zero]
       unfold AH.setc
       simp only [h3]
       rw [if_pos (by omega)]
       rfl
     · show (h.m.set b _).get b = _
       rw [X.T.get_set, if_pos rfl]
     · rw [List.length_set] at hj
       rw [X.T.get_set, List.getElem?_set]
       by_cases e : j = i
       · subst e; rw [if_pos rfl, if_pos rfl, if_pos hil]
       · rw [if_neg (by omega), if_neg (fun e2 => e e2.symm)]; exact h6 j hj
     · show (h.m.set b _).get x = _
       rw [X.T.get_set, if_neg (fun e => hn (by rw [e]; rfl))]
theorem Ws.lenV (hg : Ws h k v n cs) (hT : P.underlying T = some (.slice el)) : aLen P T v h = some (.int .i64 n) := hg.sd.len hT
end
def Gw (g : Bool) (h : AH) (k : Nat) (v : Value) (n : Nat) (cs : List Value) : Prop := match g with
 | true => Gr h k v n cs
 | false => Ws h k v n cs
section
variable {h h' : AH} {S : Nat → Prop} {g : Bool} {k n : Nat} {v : Value} {cs : List Value}
theorem Gw.ws (H : Gw g h k v n cs) : Ws h k v n cs := by
 cases g with
 | true => exact Gr.ws H
 | false => exact H
theorem Gw.sm (H : Gw g h k v n cs) (s : Sm S h h') (hb : ∀ b, vb v = some b → ¬ S b) : Gw g h' k v n cs := by
 cases g with
 | true => exact Gr.sm H s hb
 | false => exact Ws.sm H s hb
end
section
variable {ρ : Type} [DecidableEq ρ] {h h' : AH} {S : Nat → Prop} {g : ρ → Bool} {k : ρ → Nat} {V : ρ → Value} {n : ρ → Nat} {cs : ρ → List Value}
structure Lay (h : AH) (g : ρ → Bool) (k : ρ → Nat) (V : ρ → Value) (n : ρ → Nat) (cs : ρ → List Value) : Prop where
 gr : ∀ r, Gw (g r) h (k r) (V r) (n r) (cs r)
 inj : ∀ r r' b, vb (V r) = some b → vb (V r') = some b → r = r'
omit [DecidableEq ρ] in
theorem Lay.sm (L : Lay h g k V n cs) (s : Sm S h h') (hS : ∀ r b, vb (V r) = some b → ¬ S b) : Lay h' g k V n cs := ⟨fun r => (L.gr r).sm s (hS r), L.inj⟩
omit [DecidableEq ρ] in
theorem Lay.lt (L : Lay h g k V n cs) {r : ρ} {b : Nat} (hb : vb (V r) = some b) : b < h.next := (L.gr r).ws.sd.lt hb
theorem Lay.put (L : Lay h g k V n cs) (r : ρ) {v : Value} {m : Nat} {c : List Value} (s : Sm S h h') (hS : ∀ r', r' ≠ r → ∀ b, vb (V r') = some b → ¬ S b) (G : Gw (g r) h' (k r) v m c) (hv : ∀ r', r' ≠ r → ∀ b, vb (V r') = some b → vb v ≠ some b) :
   Lay h' g k (ups V r v) (ups n r m) (ups cs r c) := by
 refine ⟨fun r' => ?_, fun a a' b ha ha' => ?_⟩
 · by_cases hr : r' = r
   · subst hr; rw [ups_at, ups_at, ups_at]; exact G
   · rw [ups_ne _ _ hr, ups_ne _ _ hr, ups_ne _ _ hr]; exact (L.gr r').sm s (hS r' hr)
 · by_cases h1 : a = r
   · by_cases h2 : a' = r
     · rw [h1, h2]
     · subst h1; rw [ups_at] at ha; rw [ups_ne _ _ h2] at ha'; exact (hv _ h2 b ha' ha).elim
   · by_cases h2 : a' = r
     · subst h2; rw [ups_at] at ha'; rw [ups_ne _ _ h1] at ha; exact (hv _ h1 b ha ha').elim
     · rw [ups_ne _ _ h1] at ha; rw [ups_ne _ _ h2] at ha'; exact L.inj _ _ _ ha ha'
omit [DecidableEq ρ] in
theorem Lay.own (L : Lay h g k V n cs) (r : ρ) (hS : ∀ b, S b → vb (V r) = some b ∨ h.next ≤ b) : ∀ r', r' ≠ r → ∀ b, vb (V r') = some b → ¬ S b := fun r' hr b hb hx => by
 rcases hS b hx with e | e
 · exact hr (L.inj _ _ _ hb e)
 · have := L.lt hb; omega
omit [DecidableEq ρ] in
theorem Lay.fresh (L : Lay h g k V n cs) (r : ρ) {v : Value} (hv : ∀ b, vb v = some b → vb (V r) = some b ∨ h.next ≤ b) : ∀ r', r' ≠ r → ∀ b, vb (V r') = some b → vb v ≠ some b := fun r' hr b hb hx => by
 rcases hv b hx with e | e
 · exact hr (L.inj _ _ _ hb e)
 · have := L.lt hb; omega
omit [DecidableEq ρ] in
theorem Lay.eq (L : Lay h g k V n cs) {V' : ρ → Value} {n' : ρ → Nat} {cs' : ρ → List Value} (h1 : V' = V) (h2 : n' = n) (h3 : cs' = cs) : Lay h g k V' n' cs' := by subst h1 h2 h3; exact L
end
section
variable {P : Program} {h h' : AH} {b o i n k : Nat} {cs : List Value} {v : Value} {T el : TypeId}
theorem Gr.at (hT : P.underlying T = some (.slice el)) (hk : szOf P el = some k) (hg : Gr h k v n cs) (hi : i < n) (kd : IntKind) :
 ∃ b o, vb v = some b ∧ aIndex P T v (.int kd i) = some (.pointer (some ⟨b, o, none⟩)) ∧ ∀ j, j < k → h.cell ⟨b, o + j, none⟩ = cs[i * k + j]? := hg.sd.at hT hk hi kd
theorem ld_cell (hs : scalT P el = true) (hc : h.cell ⟨b, o, none⟩ = some v) : aLoad P el ⟨b, o, none⟩ h = some v := by
 unfold scalT at hs
 cases hu : P.underlying el with
 | none => rw [hu] at hs; cases hs
 | some d =>
  rw [hu] at hs
  have hs : isAg d = false := by simpa using hs
  unfold aLoad
  simp only [hu, hs]
  exact hc
end
theorem map_set_range {α : Type} (g : Nat → α) (n j : Nat) (x : α) : ((List.range n).map g).set j x = (List.range n).map fun k => if k = j then x else g k := by
 apply List.ext_getElem?
 intro i
 rw [List.getElem?_set]
 by_cases hi : i < n
 · by_cases e : j = i
   · subst e; simp [hi]
   · have e3 : ¬ i = j := fun e2 => e e2.symm
     rw [if_neg e]; simp [hi, e3]
 · simp [hi]
   intro e; omega
end
end Go.Arm
namespace Go.Arm
structure TE where
 k : Int
 p : Int
 t : Int
 n : Int
 v : Int
 w : Bool
structure TS where
 b : Int
 e : Int
 w : Int
 y : Int
structure TC where
 s : Int
 c : Int
 r : Int
 m : Int
abbrev Tr := List (List TE)
def fits (k p n : Int) (x : TE) : Bool := decide (x.k = k) && decide (x.n = n) && (decide (k = 3) || decide (x.p = p))
def fnd (l : List TE) (k p n : Int) : Option Nat := l.findIdx? (fits k p n)
def sameT (x y : TE) : Bool := decide (y.k = x.k) && (decide (x.k = 3) || decide (y.p = x.p))
def before (pre : List TE) (x : TE) : Nat := pre.countP (sameT x)
def peerOk (N : Nat) (x : TE) : Bool := decide (0 ≤ x.p) && decide (x.p < N)
def okE (N : Nat) (pre : List TE) (x : TE) : Bool :=
 if x.k = 1 then peerOk N x && decide (x.n = before pre x)
 else if x.k = 2 then peerOk N x && (fnd pre 2 x.p x.n).isNone
 else if x.k = 3 then decide (x.n = before pre x)
 else if x.k = 4 then decide (0 ≤ x.v) && decide (x.v ≤ 1048576)
 else false
def okL (N : Nat) : List TE → List TE → Bool
 | _, [] => true
 | pre, x :: l => okE N pre x && okL N (pre ++ [x]) l
def sendsL (p : Int) : Nat → List TE → List ((Int × Int × Int) × (Int × Int))
 | _, [] => []
 | i, x :: l => if x.k = 1 then ((p, x.p, x.n), (p, (i : Int))) :: sendsL p (i + 1) l else sendsL p (i + 1) l
theorem sendsL_app (p : Int) : ∀ (l m : List TE) (i : Nat), sendsL p i (l ++ m) = sendsL p i l ++ sendsL p (i + l.length) m
 | [], m, i => by simp [sendsL]
 | x :: l, m, i => by
  simp only [List.cons_append, sendsL, sendsL_app p l m (i + 1), List.length_cons, Nat.add_assoc, Nat.add_comm 1]
  split <;> simp
theorem fnd_cons (x : TE) (l : List TE) (k p n : Int) : fnd (x :: l) k p n = if fits k p n x then some 0 else (fnd l k p n).map (· + 1) := by
 unfold fnd
 rw [List.findIdx?_cons]
theorem fnd_app (l m : List TE) (k p n : Int) : fnd (l ++ m) k p n = (fnd l k p n).or ((fnd m k p n).map (· + l.length)) := by
 induction l with
 | nil => simp [fnd]
 | cons x l ih =>
  rw [List.cons_append, fnd_cons, fnd_cons, ih]
  split
  · rfl
  · cases fnd l k p n with
    | some i => rfl
    | none => cases fnd m k p n with
     | none => rfl
     | some j => simp; omega
theorem kget_sends (p q n : Int) : ∀ (l : List TE) (i : Nat), kget (sendsL p i l) (p, q, n) = (fnd l 1 q n).map fun j => (p, ((i + j : Nat) : Int))
 | [], i => rfl
 | x :: l, i => by
  have ih := kget_sends p q n l (i + 1)
  rw [fnd_cons]
  unfold sendsL
  by_cases hk : x.k = 1
  · rw [if_pos hk]
    show (if ((p, x.p, x.n) : Int × Int × Int) = (p, q, n) then some (p, (i : Int)) else kget (sendsL p (i + 1) l) (p, q, n)) = _
    by_cases hf : fits 1 q n x = true
    · rw [if_pos hf]
      have : x.p = q ∧ x.n = n := by
       unfold fits at hf
       simp at hf
       exact ⟨hf.2, hf.1.2⟩
      rw [if_pos (by rw [this.1, this.2])]
      simp
    · rw [if_neg hf]
      have : ¬ (x.p = q ∧ x.n = n) := fun h => hf (by unfold fits; simp [hk, h])
      rw [if_neg (fun h => this (by simpa using h)), ih]
      cases fnd l 1 q n with
      | none => rfl
      | some j => simp; omega
  · rw [if_neg hk]
    have hf : fits 1 q n x = false := by unfold fits; simp [hk]
    rw [if_neg (by rw [hf]; simp), ih]
    cases fnd l 1 q n with
    | none => rfl
    | some j => simp; omega
theorem kget_other (p p' q n : Int) (hp : p' ≠ p) : ∀ (l : List TE) (i : Nat), kget (sendsL p i l) (p', q, n) = none
 | [], _ => rfl
 | x :: l, i => by
  unfold sendsL
  split
  · show (if ((p, x.p, x.n) : Int × Int × Int) = (p', q, n) then _ else kget (sendsL p (i + 1) l) (p', q, n)) = none
    rw [if_neg (fun h => hp (by simp at h; exact h.1.symm))]
    exact kget_other p p' q n hp l (i + 1)
  · exact kget_other p p' q n hp l (i + 1)
theorem kget_app {κ β : Type} [DecidableEq κ] : ∀ (l m : List (κ × β)) (k : κ), kget (l ++ m) k = (kget l k).or (kget m k)
 | [], m, k => by simp [kget]
 | e :: l, m, k => by
  simp only [List.cons_append, kget]
  split
  · rfl
  · exact kget_app l m k
theorem kset_new {κ β : Type} [DecidableEq κ] : ∀ (l : List (κ × β)) (k : κ) (y : β), kget l k = none → kset l k y = l ++ [(k, y)]
 | [], k, y, _ => rfl
 | e :: l, k, y, h => by
  simp only [kget] at h
  split at h
  · cases h
  · rename_i hne
    simp only [kset, if_neg hne, List.cons_append, kset_new l k y h]
def sendsA : Nat → Tr → List ((Int × Int × Int) × (Int × Int))
 | _, [] => []
 | p, l :: L => sendsL p 0 l ++ sendsA (p + 1) L
theorem kget_sendsA (q n : Int) : ∀ (L : Tr) (p0 p : Nat), p0 ≤ p → kget (sendsA p0 L) ((p : Int), q, n) = (fnd (L.getD (p - p0) []) 1 q n).map fun (j : Nat) => ((p : Int), (j : Int))
 | [], p0, p, _ => by simp [sendsA, kget, fnd]
 | l :: L, p0, p, h => by
  unfold sendsA
  rw [kget_app]
  by_cases e : p = p0
  · subst e
    rw [kget_sends, Nat.sub_self]
    have hn : kget (sendsA (p + 1) L) ((p : Int), q, n) = none := kget_less L (p + 1) (by omega)
    rw [hn, Option.or_none]
    simp only [List.getD_cons_zero, Nat.zero_add]
  · rw [kget_other _ _ _ _ (by omega), Option.none_or, kget_sendsA q n L (p0 + 1) p (by omega)]
    have : p - p0 = (p - (p0 + 1)) + 1 := by omega
    rw [this]
    simp
where
 kget_less {q n : Int} {p : Nat} : ∀ (L : Tr) (p1 : Nat), p < p1 → kget (sendsA p1 L) ((p : Int), q, n) = none
  | [], _, _ => rfl
  | l :: L, p1, h => by
    unfold sendsA
    rw [kget_app, kget_other _ _ _ _ (by omega), Option.none_or]
    exact kget_less L (p1 + 1) (by omega)
theorem okL_app (N : Nat) : ∀ (l m pre : List TE), okL N pre (l ++ m) = (okL N pre l && okL N (pre ++ l) m)
 | [], m, pre => by simp [okL]
 | x :: l, m, pre => by
  simp only [List.cons_append, okL, okL_app N l m (pre ++ [x]), Bool.and_assoc, List.append_assoc, List.nil_append]
theorem okL_at {N : Nat} {l : List TE} (h : okL N [] l = true) {i : Nat} {x : TE} (hi : l[i]? = some x) : okE N (l.take i) x = true := by
 have hlt := (List.getElem?_eq_some_iff.1 hi).1
 have e : l = l.take i ++ (x :: l.drop (i + 1)) := by
  have := List.getElem_cons_drop hlt
  rw [List.getElem?_eq_getElem hlt] at hi
  cases hi
  rw [this, List.take_append_drop]
 rw [e, okL_app] at h
 simp only [okL, List.nil_append, Bool.and_eq_true] at h
 exact h.2.1
theorem before_app (l m : List TE) (x : TE) : before (l ++ m) x = before l x + before m x := by unfold before; rw [List.countP_append]
theorem fnd_fresh {N : Nat} {k p : Int} (hk : k = 1 ∨ k = 3) : ∀ (m : Nat) (l : List TE), l.length ≤ m → ∀ {x : TE}, okL N [] l = true → x.k = k → (k = 3 ∨ x.p = p) → x.n = before l x → ∀ n, x.n ≤ n → fnd l k p n = none := by
 intro m
 induction m with
 | zero =>
  intro l hm x _ _ _ _ n _
  have : l = [] := List.eq_nil_of_length_eq_zero (by omega)
  subst this
  rfl
 | succ m ih0 =>
  intro l hm
  rcases List.eq_nil_or_concat l with rfl | ⟨l, y, rfl⟩
  · intro x _ _ _ _ n _; rfl
  rw [List.concat_eq_append] at hm ⊢
  have hm' : l.length ≤ m := by simp at hm; omega
  have ih := fun {x : TE} => ih0 l hm' (x := x)
  clear ih0
  intro x hok hx hp hn n hle
  rw [okL_app] at hok
  simp only [Bool.and_eq_true, List.nil_append, okL, Bool.and_true] at hok
  rw [fnd_app]
  rw [before_app] at hn
  by_cases hs : sameT x y = true
  · have h1 : before [y] x = 1 := by unfold before; simp [hs]
    have hyk : y.k = k := by
     unfold sameT at hs
     simp at hs
     rw [hs.1, hx]
    have hyp : k = 3 ∨ y.p = p := by
     unfold sameT at hs
     simp at hs
     rcases hs.2 with h | h
     · exact .inl (by rw [← hx]; exact h)
     · rcases hp with hp | hp
       · exact .inl hp
       · exact .inr (by rw [h, hp])
    have hyn : y.n = before l y := by
     have := hok.2
     unfold okE at this
     rcases hk with hk | hk
     · rw [if_pos (by rw [hyk, hk])] at this
       simp at this
       exact this.2
     · rw [if_neg (by rw [hyk, hk]; decide), if_neg (by rw [hyk, hk]; decide), if_pos (by rw [hyk, hk])] at this
       simpa using this
    have hb : before l x = before l y := by
     unfold before
     refine List.countP_congr (fun z _ => ?_)
     unfold sameT at hs ⊢
     simp at hs ⊢
     rw [hs.1]
     rcases hs.2 with h | h
     · simp [h]
     · rw [h]
    rw [ih hok.1 hyk hyp hyn n (by omega)]
    have hf : fits k p n y = false := by
     unfold fits
     have : ¬ y.n = n := by omega
     simp [this]
    rw [fnd_cons, if_neg (by rw [hf]; simp)]
    rfl
  · have h1 : before [y] x = 0 := by
     unfold before
     simp [hs]
    rw [ih hok.1 hx hp (by omega) n hle]
    have hf : fits k p n y = false := by
     cases hb : fits k p n y with
     | false => rfl
     | true =>
       exfalso
       apply hs
       unfold fits at hb
       unfold sameT
       simp at hb ⊢
       refine ⟨by rw [hb.1.1, hx], ?_⟩
       rcases hb.2 with h | h
       · exact .inl (by rw [hx]; exact h)
       · rcases hp with hp | hp
         · exact .inl (by rw [hx]; exact hp)
         · exact .inr (by rw [h, hp])
    rw [fnd_cons, if_neg (by rw [hf]; simp)]
    rfl
end Go.Arm
namespace Go.Arm
abbrev Lf := Nat → List TE
abbrev Sf := Nat → List TS
def wrp (x : Int) : Int := IntKind.i64.wrap x
def bgn (S : Sf) (p i : Nat) : Int := if i = 0 then 0 else match (S p)[i - 1]? with
 | some s => s.e
 | none => 0
def opn (L : Lf) (S : Sf) (no : Int) : Nat → Option (Option (Int × Nat × Nat))
 | 0 => some none
 | k + 1 => match opn L S no k with
  | none => none
  | some acc => match fnd (L k) 3 0 no with
   | none => some acc
   | some i => if (S k).length < i then none else some (match acc with
    | some a => if a.1 < bgn S k i then some (bgn S k i, k, i) else some a
    | none => some (bgn S k i, k, i))
def strt (N : Nat) (L : Lf) (C : TC) (S : Sf) (p : Nat) (x : TE) : Option (Int × Int × Int) :=
 if x.k = 1 then some (0, C.s, 0)
 else if x.k = 4 then some (0, x.v, 0)
 else if x.k = 2 then match fnd (L x.p.toNat) 1 p x.n with
  | none => none
  | some j => match (S x.p.toNat)[j]? with
   | none => none
   | some s => some (s.e + C.c, C.r, 1)
 else match opn L S x.n N with
  | some (some a) => some (a.1, C.m, 2)
  | _ => none
def spanOf (b : Int) (a : Int × Int × Int) : TS := ⟨b, b + max 0 (a.1 - b) + a.2.1, max 0 (a.1 - b), if 0 < max 0 (a.1 - b) then a.2.2 else 0⟩
def nxt (N : Nat) (L : Lf) (C : TC) (S : Sf) (p : Nat) : Option TS := match (L p)[(S p).length]? with
 | none => none
 | some x => (strt N L C S p x).map (spanOf (bgn S p (S p).length))
def put1 (S : Sf) (p : Nat) (s : TS) : Sf := fun q => if q = p then S p ++ [s] else S q
theorem put1_at (S : Sf) (p : Nat) (s : TS) : put1 S p s p = S p ++ [s] := by unfold put1; rw [if_pos rfl]
theorem put1_ne (S : Sf) {p q : Nat} (s : TS) (h : q ≠ p) : put1 S p s q = S q := by unfold put1; rw [if_neg h]
def run1 (N : Nat) (L : Lf) (C : TC) : Nat → Sf → Nat → Sf
 | 0, S, _ => S
 | k + 1, S, p => match nxt N L C S p with
  | none => S
  | some s => run1 N L C k (put1 S p s) p
def left1 (L : Lf) (S : Sf) (p : Nat) : Nat := (L p).length - (S p).length
def goP (N : Nat) (L : Lf) (C : TC) (S : Sf) (p : Nat) : Sf := run1 N L C (left1 L S p) S p
theorem goP_none {N : Nat} {L : Lf} {C : TC} {S : Sf} {p : Nat} (h : nxt N L C S p = none) : goP N L C S p = S := by
 unfold goP
 cases left1 L S p with
 | zero => rfl
 | succ k => simp only [run1, h]
theorem nxt_lt {N : Nat} {L : Lf} {C : TC} {S : Sf} {p : Nat} {s : TS} (h : nxt N L C S p = some s) : (S p).length < (L p).length := by
 unfold nxt at h
 cases hg : (L p)[(S p).length]? with
 | none => rw [hg] at h; cases h
 | some x => exact (List.getElem?_eq_some_iff.1 hg).1
theorem goP_some {N : Nat} {L : Lf} {C : TC} {S : Sf} {p : Nat} {s : TS} (h : nxt N L C S p = some s) : goP N L C S p = goP N L C (put1 S p s) p := by
 have hlt := nxt_lt h
 have : left1 L S p = left1 L (put1 S p s) p + 1 := by
  unfold left1
  rw [put1_at, List.length_append]
  simp only [List.length_singleton]
  omega
 unfold goP
 rw [this]
 simp only [run1, h]
def rnd (N : Nat) (L : Lf) (C : TC) : Nat → Sf × Bool → Sf × Bool
 | 0, a => a
 | k + 1, a => (goP N L C (rnd N L C k a).1 k, (rnd N L C k a).2 || (nxt N L C (rnd N L C k a).1 k).isSome)
def tot (N : Nat) (S : Sf) : Nat := match N with
 | 0 => 0
 | k + 1 => tot k S + (S k).length
def totL (N : Nat) (L : Lf) : Nat := match N with
 | 0 => 0
 | k + 1 => totL k L + (L k).length
def allR (N : Nat) (L : Lf) (C : TC) : Nat → Sf → Sf
 | 0, S => S
 | k + 1, S => if (rnd N L C N (S, false)).2 then allR N L C k (rnd N L C N (S, false)).1 else (rnd N L C N (S, false)).1
def nil_ : Sf := fun _ => []
def timesS (N : Nat) (L : Lf) (C : TC) : Sf := allR N L C (totL N L + 1) nil_
def doneT (N : Nat) (L : Lf) (S : Sf) : Bool := (List.range N).all fun p => decide ((L p).length ≤ (S p).length)
structure Gd (N : Nat) (L : Lf) (S : Sf) : Prop where
 le : ∀ p, (S p).length ≤ (L p).length
 hi : ∀ p, N ≤ p → S p = []
 e0 : ∀ p s, s ∈ S p → 0 ≤ s.e ∧ s.e ≤ tot N S * 2097152
structure Okc (C : TC) : Prop where
 s : 0 ≤ C.s ∧ C.s ≤ 1048576
 c : 0 ≤ C.c ∧ C.c ≤ 1048576
 r : 0 ≤ C.r ∧ C.r ≤ 1048576
 m : 0 ≤ C.m ∧ C.m ≤ 1048576
structure Okl (N : Nat) (L : Lf) : Prop where
 hi : ∀ p, N ≤ p → L p = []
 ev : ∀ p i x, (L p)[i]? = some x → okE N ((L p).take i) x = true
 snt : ∀ p x, x ∈ L p → x.k = 2 → (fnd (L x.p.toNat) 1 p x.n).isSome = true
theorem tot_put {N : Nat} {S : Sf} {p : Nat} {s : TS} : tot N (put1 S p s) = tot N S + if p < N then 1 else 0 := by
 induction N with
 | zero => simp [tot]
 | succ n ih =>
  simp only [tot, ih]
  by_cases h : n = p
  · subst h
    rw [put1_at, if_neg (Nat.lt_irrefl _), if_pos (Nat.lt_succ_self _)]
    simp
    omega
  · rw [put1_ne _ _ h]
    by_cases h2 : p < n
    · rw [if_pos h2, if_pos (by omega)]; omega
    · rw [if_neg h2, if_neg (by omega)]; omega
theorem tot_le {N : Nat} {L : Lf} {S : Sf} (g : ∀ p, (S p).length ≤ (L p).length) : tot N S ≤ totL N L := by
 induction N with
 | zero => simp [tot, totL]
 | succ n ih => have := g n; simp only [tot, totL]; omega
theorem Gd.nil (N : Nat) (L : Lf) : Gd N L nil_ := ⟨fun p => Nat.zero_le _, fun _ _ => rfl, fun p s h => by cases h⟩
theorem Gd.bgn {N : Nat} {L : Lf} {S : Sf} (g : Gd N L S) (p i : Nat) : 0 ≤ bgn S p i ∧ bgn S p i ≤ tot N S * 2097152 := by
 unfold Arm.bgn
 split
 · exact ⟨Int.le_refl _, by omega⟩
 · split
   · rename_i s hs
     exact g.e0 p s (List.mem_of_getElem? hs)
   · exact ⟨Int.le_refl _, by omega⟩
theorem Gd.opn {N : Nat} {L : Lf} {S : Sf} (g : Gd N L S) (no : Int) : ∀ (k : Nat) (a : Int × Nat × Nat), opn L S no k = some (some a) → 0 ≤ a.1 ∧ a.1 ≤ tot N S * 2097152 ∧ a.2.1 < k ∧ fnd (L a.2.1) 3 0 no = some a.2.2 ∧ a.1 = Arm.bgn S a.2.1 a.2.2 ∧ a.2.2 ≤ (S a.2.1).length
 | 0, a, h => by simp [Arm.opn] at h
 | k + 1, a, h => by
  unfold Arm.opn at h
  split at h
  · cases h
  · rename_i acc hk
    split at h
    · cases h
      obtain ⟨h1, h2, h3, h4⟩ := g.opn no k a hk
      exact ⟨h1, h2, by omega, h4⟩
    · rename_i i hi
      split at h
      · cases h
      · rename_i hl
        have hb := g.bgn k i
        cases acc with
        | none =>
         simp only [Option.some.injEq] at h
         subst h
         exact ⟨hb.1, hb.2, Nat.lt_succ_self _, hi, rfl, Nat.le_of_not_lt hl⟩
        | some c =>
         simp only at h
         split at h
         · cases h
           exact ⟨hb.1, hb.2, Nat.lt_succ_self _, hi, rfl, Nat.le_of_not_lt hl⟩
         · cases h
           obtain ⟨h1, h2, h3, h4⟩ := g.opn no k a hk
           exact ⟨h1, h2, by omega, h4⟩
theorem opn_known {L : Lf} {S : Sf} {no : Int} : ∀ (k : Nat) {a : Option (Int × Nat × Nat)}, opn L S no k = some a → ∀ q, q < k → ∀ i, fnd (L q) 3 0 no = some i → i ≤ (S q).length
 | 0, _, _, q, hq, _, _ => by omega
 | k + 1, a, h, q, hq, i, hi => by
  unfold opn at h
  split at h
  · cases h
  · rename_i acc hk
    by_cases e : q = k
    · subst e
      rw [hi] at h
      dsimp only at h
      split at h
      · cases h
      · omega
    · exact opn_known k hk q (by omega) i hi
theorem opn_one {L : Lf} {S : Sf} {no : Int} : ∀ (k : Nat), opn L S no k = some none → ∀ q, q < k → fnd (L q) 3 0 no = none
 | 0, _, q, hq => by omega
 | k + 1, h, q, hq => by
  unfold opn at h
  split at h
  · cases h
  · rename_i acc hk
    split at h
    · rename_i hn
      cases h
      by_cases e : q = k
      · subst e; exact hn
      · exact opn_one k hk q (by omega)
    · split at h
      · cases h
      · cases acc with
        | none => simp at h
        | some c => simp only at h; split at h <;> cases h
theorem Gd.strt {N : Nat} {L : Lf} {C : TC} {S : Sf} (g : Gd N L S) (hC : Okc C) {p i : Nat} {x : TE} (hL : Okl N L) (hx : (L p)[i]? = some x) {a : Int × Int × Int} (h : strt N L C S p x = some a) :
   0 ≤ a.1 ∧ a.1 ≤ tot N S * 2097152 + 1048576 ∧ 0 ≤ a.2.1 ∧ a.2.1 ≤ 1048576 := by
 unfold Arm.strt at h
 have := hC.s; have := hC.c; have := hC.r; have := hC.m
 split at h
 · cases h; dsimp only; omega
 · split at h
   · rename_i h1 h4
     cases h
     have he := hL.ev p i x hx
     unfold okE at he
     rw [if_neg h1, if_neg (by omega), if_neg (by omega), if_pos h4] at he
     simp at he
     dsimp only; omega
   · split at h
     · split at h
       · cases h
       · split at h
         · cases h
         · rename_i j hj s hs
           cases h
           have := g.e0 _ s (List.mem_of_getElem? hs)
           dsimp only; omega
     · split at h
       · rename_i c hc
         cases h
         have := g.opn x.n N c hc
         dsimp only; omega
       · cases h
theorem Gd.nxt {N : Nat} {L : Lf} {C : TC} {S : Sf} (g : Gd N L S) (hC : Okc C) (hL : Okl N L) {p : Nat} (hp : p < N) {s : TS} (h : nxt N L C S p = some s) : Gd N L (put1 S p s) := by
 have hlt := nxt_lt h
 unfold Arm.nxt at h
 cases hg : (L p)[(S p).length]? with
 | none => rw [hg] at h; cases h
 | some x =>
  rw [hg] at h
  dsimp only at h
  cases hs : Arm.strt N L C S p x with
  | none => rw [hs] at h; cases h
  | some a =>
   rw [hs] at h
   have ha := g.strt hC hL hg hs
   have hb := g.bgn p (S p).length
   have ht : tot N (put1 S p s) = tot N S + 1 := by rw [tot_put, if_pos hp]
   have he : 0 ≤ s.e ∧ s.e ≤ tot N (put1 S p s) * 2097152 := by
     rw [ht]
     simp only [Option.map_some, Option.some.injEq] at h
     subst h
     unfold spanOf
     dsimp only
     push_cast
     omega
   refine ⟨fun q => ?_, fun q hq => ?_, fun q u hu => ?_⟩
   · by_cases e : q = p
     · subst e; rw [put1_at, List.length_append, List.length_singleton]; omega
     · rw [put1_ne _ _ e]; exact g.le q
   · rw [put1_ne _ _ (by omega)]; exact g.hi q hq
   · by_cases e : q = p
     · subst e
       rw [put1_at] at hu
       rcases List.mem_append.1 hu with hu | hu
       · have := g.e0 _ u hu
         rw [ht]; push_cast; omega
       · cases List.mem_singleton.1 hu; exact he
     · rw [put1_ne _ _ e] at hu
       have := g.e0 _ u hu
       rw [ht]; push_cast; omega
end Go.Arm
namespace Go.Arm
structure Rkd (N : Nat) (L : Lf) (S : Sf) (rk : Nat → Nat → Nat) : Prop where
 lt : ∀ p i, i < (S p).length → rk p i < tot N S
 up : ∀ p i i', i < i' → i' < (S p).length → rk p i < rk p i'
 rcv : ∀ (p i : Nat) (x : TE), i < (S p).length → (L p)[i]? = some x → x.k = 2 → ∀ j, fnd (L x.p.toNat) 1 p x.n = some j → j < (S x.p.toNat).length ∧ rk x.p.toNat j < rk p i
 mt : ∀ (p i : Nat) (x : TE), i < (S p).length → (L p)[i]? = some x → x.k = 3 → ∀ q, q < N → ∀ j, fnd (L q) 3 0 x.n = some j → j ≤ (S q).length ∧ ∀ j', j' < j → rk q j' < rk p i
 y1 : ∀ (p i : Nat) (x : TE) (s : TS), (S p)[i]? = some s → (L p)[i]? = some x → (s.y = 1 → x.k = 2) ∧ (s.y = 2 → x.k = 3) ∧ (s.y = 0 ∨ s.y = 1 ∨ s.y = 2) ∧ (s.y = 0 → s.w = 0)
theorem Rkd.nil (N : Nat) (L : Lf) : Rkd N L nil_ (fun _ _ => 0) :=
 ⟨fun p i h => by simp [nil_] at h, fun p i i' _ h => by simp [nil_] at h, fun p i x h => by simp [nil_] at h, fun p i x h => by simp [nil_] at h, fun p i x s h => by simp [nil_] at h⟩
theorem okE_k {N : Nat} {pre : List TE} {x : TE} (h : okE N pre x = true) : x.k = 1 ∨ x.k = 2 ∨ x.k = 3 ∨ x.k = 4 := by
 unfold okE at h
 by_cases h1 : x.k = 1
 · exact .inl h1
 · by_cases h2 : x.k = 2
   · exact .inr (.inl h2)
   · by_cases h3 : x.k = 3
     · exact .inr (.inr (.inl h3))
     · by_cases h4 : x.k = 4
       · exact .inr (.inr (.inr h4))
       · rw [if_neg h1, if_neg h2, if_neg h3, if_neg h4] at h; cases h
theorem Rkd.nxt {N : Nat} {L : Lf} {C : TC} {S : Sf} {rk : Nat → Nat → Nat} (R : Rkd N L S rk) (g : Gd N L S) (hL : Okl N L) {p : Nat} (hp : p < N) {s : TS} (h : nxt N L C S p = some s) :
  Rkd N L (put1 S p s) (fun a b => if a = p ∧ b = (S p).length then tot N S else rk a b) := by
 unfold Arm.nxt at h
 cases hg : (L p)[(S p).length]? with
 | none => rw [hg] at h; cases h
 | some x =>
  rw [hg] at h
  dsimp only at h
  cases hs : Arm.strt N L C S p x with
  | none => rw [hs] at h; cases h
  | some a =>
   rw [hs] at h
   simp only [Option.map_some, Option.some.injEq] at h
   have ht : tot N (put1 S p s) = tot N S + 1 := by rw [tot_put, if_pos hp]
   have hlen : ∀ q, (put1 S p s q).length = (S q).length + if q = p then 1 else 0 := by
     intro q
     by_cases e : q = p
     · subst e; rw [put1_at, List.length_append, if_pos rfl]; rfl
     · rw [put1_ne _ _ e, if_neg e]; rfl
   have old : ∀ q i, i < (put1 S p s q).length → (¬ (q = p ∧ i = (S p).length)) → i < (S q).length := by
     intro q i hi hn
     rw [hlen] at hi
     by_cases e : q = p
     · subst e; rw [if_pos rfl] at hi
       have : i ≠ (S q).length := fun e2 => hn ⟨rfl, e2⟩
       omega
     · rw [if_neg e] at hi; omega
   have grow : ∀ q, (S q).length ≤ (put1 S p s q).length := fun q => by rw [hlen]; omega
   have same : ∀ q i, i < (S q).length → (if q = p ∧ i = (S p).length then tot N S else rk q i) = rk q i := by
     intro q i hi
     rw [if_neg]
     rintro ⟨rfl, rfl⟩
     omega
   refine ⟨fun q i hi => ?_, fun q i i' hii hi' => ?_, fun q i y hi hy hk j hj => ?_, fun q i y hi hy hk r hr j hj => ?_, fun q i y u hu hy => ?_⟩
   · try dsimp only
     by_cases e : q = p ∧ i = (S p).length
     · rw [if_pos e, ht]; omega
     · rw [if_neg e, ht]
       have := R.lt q i (old q i hi e)
       omega
   · try dsimp only
     by_cases e : q = p ∧ i' = (S p).length
     · obtain ⟨rfl, rfl⟩ := e
       rw [if_neg (show ¬ (q = q ∧ i = (S q).length) by omega), if_pos ⟨rfl, rfl⟩]
       exact R.lt q i hii
     · have h5 := old q i' hi' e
       rw [if_neg e, same q i (by omega)]
       exact R.up q i i' hii h5
   · by_cases e : q = p ∧ i = (S p).length
     · obtain ⟨rfl, rfl⟩ := e
       rw [hg] at hy; cases hy
       unfold Arm.strt at hs
       rw [if_neg (by omega), if_neg (by omega), if_pos hk, hj] at hs
       dsimp only at hs
       cases hsj : (S x.p.toNat)[j]? with
       | none => rw [hsj] at hs; cases hs
       | some u =>
         have hjl := (List.getElem?_eq_some_iff.1 hsj).1
         refine ⟨Nat.lt_of_lt_of_le hjl (grow _), ?_⟩
         try dsimp only
         rw [same _ _ hjl, if_pos ⟨rfl, rfl⟩]
         exact R.lt _ _ hjl
     · have h5 := old q i hi e
       obtain ⟨h6, h7⟩ := R.rcv q i y h5 hy hk j hj
       refine ⟨Nat.lt_of_lt_of_le h6 (grow _), ?_⟩
       try dsimp only
       rw [same _ _ h6, same _ _ h5]
       exact h7
   · by_cases e : q = p ∧ i = (S p).length
     · obtain ⟨rfl, rfl⟩ := e
       rw [hg] at hy; cases hy
       unfold Arm.strt at hs
       rw [if_neg (by omega), if_neg (by omega), if_neg (by omega)] at hs
       split at hs
       · rename_i c hc
         have h6 := opn_known N hc r hr j hj
         refine ⟨Nat.le_trans h6 (grow _), fun j' hj' => ?_⟩
         try dsimp only
         rw [same _ _ (by omega), if_pos ⟨rfl, rfl⟩]
         exact R.lt _ _ (by omega)
       · cases hs
     · have h5 := old q i hi e
       obtain ⟨h6, h7⟩ := R.mt q i y h5 hy hk r hr j hj
       refine ⟨Nat.le_trans h6 (grow _), fun j' hj' => ?_⟩
       try dsimp only
       rw [same _ _ (by omega), same _ _ h5]
       exact h7 j' hj'
   · by_cases e : q = p ∧ i = (S p).length
     · obtain ⟨rfl, rfl⟩ := e
       rw [hg] at hy; cases hy
       rw [put1_at, List.getElem?_append_right (Nat.le_refl _), Nat.sub_self] at hu
       cases hu
       subst h
       unfold spanOf
       dsimp only
       have hk := okE_k (hL.ev _ _ _ hg)
       unfold Arm.strt at hs
       have hy0 : (a.2.2 = 1 → x.k = 2) ∧ (a.2.2 = 2 → x.k = 3) ∧ (a.2.2 = 0 ∨ a.2.2 = 1 ∨ a.2.2 = 2) ∧ (a.2.2 = 0 → a.1 = 0) := by
         split at hs
         · cases hs; simp
         · split at hs
           · cases hs; simp
           · split at hs
             · split at hs
               · cases hs
               · split at hs
                 · cases hs
                 · rename_i h2 _ _ _ _ _ _
                   cases hs
                   exact ⟨fun _ => h2, fun h => by simp at h, by simp, fun h => by simp at h⟩
             · split at hs
               · cases hs
                 exact ⟨fun h => by simp at h, fun _ => by omega, by simp, fun h => by simp at h⟩
               · cases hs
       have hb := g.bgn q (S q).length
       by_cases hw : 0 < max 0 (a.1 - bgn S q (S q).length)
       · rw [if_pos hw]
         refine ⟨hy0.1, hy0.2.1, hy0.2.2.1, fun h0 => ?_⟩
         have := hy0.2.2.2 h0
         omega
       · rw [if_neg hw]
         exact ⟨fun h => by simp at h, fun h => by simp at h, .inl rfl, fun _ => by omega⟩
     · have h5 := old q i (List.getElem?_eq_some_iff.1 hu).1 e
       refine R.y1 q i y u ?_ hy
       by_cases e2 : q = p
       · subst e2
         rw [put1_at, List.getElem?_append_left h5] at hu
         exact hu
       · rw [put1_ne _ _ e2] at hu; exact hu
def cause (N : Nat) (L : Lf) (S : Sf) (a : Nat × Nat) : Option (Nat × Nat) := match (L a.1)[a.2]?, (S a.1)[a.2]? with
 | some x, some s => if s.y = 1 then (fnd (L x.p.toNat) 1 a.1 x.n).map fun j => (x.p.toNat, j)
  else match (if s.y = 2 then (match opn L S x.n N with
   | some (some c) => (c.2.1, c.2.2)
   | _ => a) else a) with
   | (_q, 0) => none
   | (q, j + 1) => some (q, j)
 | _, _ => none
inductive Pth (N : Nat) (L : Lf) (S : Sf) : Nat × Nat → List (Nat × Nat) → Prop
 | last {a} (h : cause N L S a = none) : Pth N L S a [a]
 | cons {a b l} (h : cause N L S a = some b) (k : Pth N L S b l) : Pth N L S a (a :: l)
structure Dn (N : Nat) (L : Lf) (S : Sf) : Prop where
 g : Gd N L S
 r : ∃ rk, Rkd N L S rk
 d : ∀ p, (S p).length = (L p).length
 l : Okl N L
theorem cause_lt {N : Nat} {L : Lf} {S : Sf} {rk : Nat → Nat → Nat} (R : Rkd N L S rk) (g : Gd N L S) (hd : ∀ p, (S p).length = (L p).length) (_hL : Okl N L) {a b : Nat × Nat} (ha : a.2 < (S a.1).length) (h : cause N L S a = some b) :
   b.2 < (S b.1).length ∧ rk b.1 b.2 < rk a.1 a.2 := by
 obtain ⟨p, i⟩ := a
 unfold cause at h
 dsimp only at h ha
 have hx : (L p)[i]? = some ((L p)[i]'(by rw [← hd]; exact ha)) := List.getElem?_eq_getElem _
 have hs : (S p)[i]? = some ((S p)[i]) := List.getElem?_eq_getElem _
 generalize (L p)[i]'(by rw [← hd]; exact ha) = x at hx
 generalize (S p)[i] = s at hs
 rw [hx, hs] at h
 dsimp only at h
 obtain ⟨y1, y2, y3, _⟩ := R.y1 p i x s hs hx
 by_cases h1 : s.y = 1
 · rw [if_pos h1] at h
   cases hj : fnd (L x.p.toNat) 1 p x.n with
   | none => rw [hj] at h; cases h
   | some j =>
     rw [hj] at h
     cases h
     exact R.rcv p i x ha hx (y1 h1) j hj
 · rw [if_neg h1] at h
   have own : ∀ {c : Nat × Nat}, (match (p, i) with
      | (_, 0) => none
      | (q, j + 1) => some (q, j)) = some c → c.2 < (S c.1).length ∧ rk c.1 c.2 < rk p i := by
     intro c hc
     cases i with
     | zero => cases hc
     | succ j =>
      cases hc
      exact ⟨by dsimp only; omega, R.up p j (j + 1) (Nat.lt_succ_self _) ha⟩
   by_cases h2 : s.y = 2
   · rw [if_pos h2] at h
     cases ho : opn L S x.n N with
     | none => rw [ho] at h; exact own h
     | some c => cases c with
      | none => rw [ho] at h; exact own h
      | some c =>
       rw [ho] at h
       dsimp only at h
       obtain ⟨_, _, hq, hf, _, hl⟩ := g.opn x.n N c ho
       have hm := R.mt p i x ha hx (y2 h2) c.2.1 hq c.2.2 hf
       cases hc : c.2.2 with
       | zero => rw [hc] at h; cases h
       | succ j =>
        rw [hc] at h hm hl
        cases h
        exact ⟨by dsimp only; omega, hm.2 j (Nat.lt_succ_self _)⟩
   · rw [if_neg h2] at h
     exact own h
theorem pth_ex {N : Nat} {L : Lf} {S : Sf} (D : Dn N L S) (a : Nat × Nat) (ha : a.2 < (S a.1).length) : ∃ l, Pth N L S a l ∧ l.length ≤ tot N S ∧ ∀ b, b ∈ l → b.2 < (S b.1).length := by
 obtain ⟨rk, R⟩ := D.r
 have key : ∀ (k : Nat) (a : Nat × Nat), rk a.1 a.2 < k → a.2 < (S a.1).length → ∃ l, Pth N L S a l ∧ l.length ≤ rk a.1 a.2 + 1 ∧ ∀ b, b ∈ l → b.2 < (S b.1).length := by
  intro k
  induction k with
  | zero => intro a h; omega
  | succ k ih =>
   intro a hk ha
   cases hc : cause N L S a with
   | none => exact ⟨[a], .last hc, by simp, fun b hb => by cases List.mem_singleton.1 hb; exact ha⟩
   | some b =>
    obtain ⟨h1, h2⟩ := cause_lt R D.g D.d D.l ha hc
    obtain ⟨l, h3, h4, h5⟩ := ih b (by omega) h1
    exact ⟨a :: l, .cons hc h3, by simp; omega, fun c hc => by
     rcases List.mem_cons.1 hc with rfl | hc
     · exact ha
     · exact h5 c hc⟩
 obtain ⟨l, h1, h2, h3⟩ := key (rk a.1 a.2 + 1) a (Nat.lt_succ_self _) ha
 exact ⟨l, h1, by have := R.lt a.1 a.2 ha; omega, h3⟩
def lastT (S : Sf) : Nat → Option (Nat × Int)
 | 0 => none
 | k + 1 => match (S k).getLast? with
  | none => lastT S k
  | some s => match lastT S k with
   | none => some (k, s.e)
   | some a => if a.2 < s.e then some (k, s.e) else some a
theorem lastT_ok {S : Sf} : ∀ (k : Nat) {a : Nat × Int}, lastT S k = some a → a.1 < k ∧ S a.1 ≠ []
 | 0, a, h => by cases h
 | k + 1, a, h => by
  unfold lastT at h
  split at h
  · obtain ⟨h1, h2⟩ := lastT_ok k h
    exact ⟨by omega, h2⟩
  · rename_i s hs
    have hne : S k ≠ [] := by intro e; rw [e] at hs; cases hs
    split at h
    · cases h; exact ⟨Nat.lt_succ_self _, hne⟩
    · rename_i c hc
      split at h
      · cases h; exact ⟨Nat.lt_succ_self _, hne⟩
      · cases h
        obtain ⟨h1, h2⟩ := lastT_ok k hc
        exact ⟨by omega, h2⟩
def waitsT (l : List TS) : Int × Int := l.foldl (fun a s => if s.y = 1 then (wrp (a.1 + s.w), a.2) else if s.y = 2 then (a.1, wrp (a.2 + s.w)) else a) (0, 0)
end Go.Arm
namespace Go.Arm
structure Inv (N : Nat) (L : Lf) (S : Sf) : Prop where
 g : Gd N L S
 r : ∃ rk, Rkd N L S rk
theorem Inv.nil (N : Nat) (L : Lf) : Inv N L nil_ := ⟨Gd.nil N L, _, Rkd.nil N L⟩
section
variable {N : Nat} {L : Lf} {C : TC} {S : Sf} {p : Nat}
theorem Inv.nxt (I : Inv N L S) (hC : Okc C) (hL : Okl N L) (hp : p < N) {s : TS} (h : nxt N L C S p = some s) : Inv N L (put1 S p s) := by
 obtain ⟨rk, R⟩ := I.r
 exact ⟨I.g.nxt hC hL hp h, _, R.nxt I.g hL hp h⟩
theorem Inv.go (hC : Okc C) (hL : Okl N L) (hp : p < N) : ∀ (k : Nat) {S : Sf}, Inv N L S → Inv N L (run1 N L C k S p) ∧ tot N S ≤ tot N (run1 N L C k S p)
 | 0, S, I => ⟨I, Nat.le_refl _⟩
 | k + 1, S, I => by
  unfold run1
  cases h : Arm.nxt N L C S p with
  | none => exact ⟨I, Nat.le_refl _⟩
  | some s =>
   obtain ⟨h1, h2⟩ := Inv.go hC hL hp k (I.nxt hC hL hp h)
   have ht : tot N (put1 S p s) = tot N S + 1 := by rw [tot_put, if_pos hp]
   exact ⟨h1, by dsimp only; omega⟩
theorem Inv.goP (I : Inv N L S) (hC : Okc C) (hL : Okl N L) (hp : p < N) : Inv N L (Arm.goP N L C S p) ∧ tot N S ≤ tot N (Arm.goP N L C S p) ∧ ((Arm.nxt N L C S p).isSome = true → tot N S < tot N (Arm.goP N L C S p)) := by
 obtain ⟨h1, h2⟩ := Inv.go hC hL hp (left1 L S p) I
 refine ⟨h1, h2, fun h => ?_⟩
 obtain ⟨s, hs⟩ := Option.isSome_iff_exists.1 h
 rw [goP_some hs]
 obtain ⟨_, h4⟩ := Inv.go hC hL hp (left1 L (put1 S p s) p) (I.nxt hC hL hp hs)
 have ht : tot N (put1 S p s) = tot N S + 1 := by rw [tot_put, if_pos hp]
 unfold Arm.goP
 omega
theorem Inv.rnd (I : Inv N L S) (hC : Okc C) (hL : Okl N L) : ∀ k, k ≤ N → Inv N L (Arm.rnd N L C k (S, false)).1 ∧ tot N S ≤ tot N (Arm.rnd N L C k (S, false)).1 ∧ ((Arm.rnd N L C k (S, false)).2 = true → tot N S < tot N (Arm.rnd N L C k (S, false)).1)
 | 0, _ => ⟨I, Nat.le_refl _, fun h => by cases h⟩
 | k + 1, hk => by
  obtain ⟨h1, h2, h3⟩ := Inv.rnd I hC hL k (by omega)
  obtain ⟨h4, h5, h6⟩ := h1.goP hC hL (p := k) (by omega)
  refine ⟨h4, Nat.le_trans h2 h5, fun h => ?_⟩
  unfold Arm.rnd at h ⊢
  dsimp only at h ⊢
  rw [Bool.or_eq_true] at h
  rcases h with h | h
  · have := h3 h; omega
  · have := h6 h; omega
def More (N : Nat) (L : Lf) (C : TC) (m : Nat) (S : Sf) (b : Bool) : Prop := match b with
 | true => timesS N L C = allR N L C m S ∧ totL N L < m + tot N S
 | false => timesS N L C = S
theorem more0 (N : Nat) (L : Lf) (C : TC) : More N L C (totL N L + 1) nil_ true := ⟨rfl, by omega⟩
theorem More.pos {m : Nat} (I : Inv N L S) (h : More N L C m S true) : ∃ k, m = k + 1 := by
 have h1 : tot N S ≤ totL N L := tot_le I.g.le
 have h2 := h.2
 exact ⟨m - 1, by omega⟩
theorem More.step {k : Nat} (I : Inv N L S) (hC : Okc C) (hL : Okl N L) (h : More N L C (k + 1) S true) : More N L C k (Arm.rnd N L C N (S, false)).1 (Arm.rnd N L C N (S, false)).2 := by
 obtain ⟨h1, h2⟩ := h
 unfold allR at h1
 obtain ⟨_, h4, h5⟩ := I.rnd hC hL N (Nat.le_refl _)
 cases hb : (Arm.rnd N L C N (S, false)).2 with
 | true =>
  rw [hb, if_pos rfl] at h1
  have := h5 hb
  exact ⟨h1, by omega⟩
 | false =>
  rw [hb, if_neg (by simp)] at h1
  exact h1
theorem done_ok (I : Inv N L S) (hL : Okl N L) (h : doneT N L S = true) : Dn N L S := by
 refine ⟨I.g, I.r, fun p => ?_, hL⟩
 by_cases hp : p < N
 · have := List.all_eq_true.1 h p (List.mem_range.2 hp)
   have h1 := of_decide_eq_true this
   exact Nat.le_antisymm (I.g.le p) h1
 · rw [I.g.hi p (by omega), hL.hi p (by omega)]; rfl
end
end Go.Arm
namespace Go.Arm
def recvL (p : Int) : List TE → List ((Int × Int × Int) × Bool)
 | [] => []
 | x :: l => if x.k = 2 then ((x.p, p, x.n), true) :: recvL p l else recvL p l
theorem recvL_app (p : Int) : ∀ (l m : List TE), recvL p (l ++ m) = recvL p l ++ recvL p m
 | [], m => rfl
 | x :: l, m => by
  simp only [List.cons_append, recvL, recvL_app p l m]
  split <;> simp
theorem kget_recv (p q n : Int) : ∀ (l : List TE), (kget (recvL p l) (q, p, n)).isSome = (fnd l 2 q n).isSome
 | [] => rfl
 | x :: l => by
  have ih := kget_recv p q n l
  rw [fnd_cons]
  unfold recvL
  by_cases hk : x.k = 2
  · rw [if_pos hk]
    show (if ((x.p, p, x.n) : Int × Int × Int) = (q, p, n) then some true else kget (recvL p l) (q, p, n)).isSome = _
    by_cases hf : fits 2 q n x = true
    · rw [if_pos hf]
      have : x.p = q ∧ x.n = n := by
       unfold fits at hf
       simp at hf
       exact ⟨hf.2, hf.1.2⟩
      rw [if_pos (by rw [this.1, this.2])]
      rfl
    · rw [if_neg hf]
      have : ¬ (x.p = q ∧ x.n = n) := fun h => hf (by unfold fits; simp [hk, h])
      rw [if_neg (fun h => this (by simpa using h)), ih]
      cases fnd l 2 q n <;> rfl
  · rw [if_neg hk]
    have hf : fits 2 q n x = false := by unfold fits; simp [hk]
    rw [if_neg (by rw [hf]; simp), ih]
    cases fnd l 2 q n <;> rfl
theorem kget_recv_other (p p' q n : Int) (hp : p' ≠ p) : ∀ (l : List TE), kget (recvL p l) (q, p', n) = none
 | [] => rfl
 | x :: l => by
  unfold recvL
  split
  · show (if ((x.p, p, x.n) : Int × Int × Int) = (q, p', n) then _ else kget (recvL p l) (q, p', n)) = none
    rw [if_neg (fun h => hp (by simp at h; exact h.2.1.symm))]
    exact kget_recv_other p p' q n hp l
  · exact kget_recv_other p p' q n hp l
theorem recvL_mem {p : Int} {e : (Int × Int × Int) × Bool} : ∀ {l : List TE}, e ∈ recvL p l ↔ ∃ x, x ∈ l ∧ x.k = 2 ∧ e = ((x.p, p, x.n), true)
 | [] => by simp [recvL]
 | x :: l => by
  have ih := @recvL_mem p e l
  unfold recvL
  by_cases hk : x.k = 2
  · rw [if_pos hk, List.mem_cons, ih]
    constructor
    · rintro (rfl | ⟨y, h1, h2⟩)
      · exact ⟨x, by simp, hk, rfl⟩
      · exact ⟨y, by simp [h1], h2⟩
    · rintro ⟨y, h1, h2, h3⟩
      rcases List.mem_cons.1 h1 with rfl | h1
      · exact .inl h3
      · exact .inr ⟨y, h1, h2, h3⟩
  · rw [if_neg hk, ih]
    constructor
    · rintro ⟨y, h1, h2⟩; exact ⟨y, by simp [h1], h2⟩
    · rintro ⟨y, h1, h2, h3⟩
      rcases List.mem_cons.1 h1 with rfl | h1
      · exact (hk h2).elim
      · exact ⟨y, h1, h2, h3⟩
def sndS (L : Lf) : Nat → List ((Int × Int × Int) × (Int × Int))
 | 0 => []
 | p + 1 => sndS L p ++ sendsL p 0 (L p)
def rcvS (L : Lf) : Nat → List ((Int × Int × Int) × Bool)
 | 0 => []
 | p + 1 => rcvS L p ++ recvL p (L p)
theorem sendsA_app : ∀ (A B : Tr) (p0 : Nat), sendsA p0 (A ++ B) = sendsA p0 A ++ sendsA (p0 + A.length) B
 | [], B, p0 => by simp [sendsA]
 | l :: A, B, p0 => by
  simp only [List.cons_append, sendsA, sendsA_app A B (p0 + 1), List.append_assoc, List.length_cons, Nat.add_assoc, Nat.add_comm 1]
theorem sndS_eq (L : Lf) : ∀ N, sndS L N = sendsA 0 ((List.range N).map L)
 | 0 => rfl
 | N + 1 => by
  unfold sndS
  rw [List.range_succ, List.map_append, sendsA_app, sndS_eq L N]
  simp [sendsA]
theorem sndS_none (L : Lf) (p : Nat) (q n : Int) : ∀ k, k ≤ p → kget (sndS L k) ((p : Int), q, n) = none
 | 0, _ => rfl
 | k + 1, h => by
  unfold sndS
  rw [kget_app, sndS_none L p q n k (by omega), kget_other _ _ _ _ (by omega)]
  rfl
theorem rcvS_none (L : Lf) (p : Nat) (q n : Int) : ∀ k, k ≤ p → kget (rcvS L k) (q, (p : Int), n) = none
 | 0, _ => rfl
 | k + 1, h => by
  unfold rcvS
  rw [kget_app, rcvS_none L p q n k (by omega), kget_recv_other _ _ _ _ (by omega)]
  rfl
def cntS (l : List TE) (q : Nat) : Nat := l.countP fun y => decide (y.k = 1) && decide (y.p = (q : Int))
def cntM (l : List TE) : Nat := l.countP fun y => decide (y.k = 3)
theorem before_send {l : List TE} {x : TE} {q : Nat} (hk : x.k = 1) (hq : x.p = (q : Int)) : before l x = cntS l q := by
 unfold before cntS
 refine List.countP_congr fun y _ => ?_
 unfold sameT
 simp [hk, hq]
theorem before_meet {l : List TE} {x : TE} (hk : x.k = 3) : before l x = cntM l := by
 unfold before cntM
 refine List.countP_congr fun y _ => ?_
 unfold sameT
 simp [hk]
theorem cntS_le (l : List TE) (q : Nat) : cntS l q ≤ l.length := List.countP_le_length
theorem cntM_le (l : List TE) : cntM l ≤ l.length := List.countP_le_length
theorem take_one {α : Type} {l : List α} {i : Nat} {x : α} (h : l[i]? = some x) : l.take (i + 1) = l.take i ++ [x] := by
 rw [List.take_add_one, h]; rfl
section
variable {N p i : Nat} {L : Lf} {x : TE}
def sndI (L : Lf) (p i : Nat) : List ((Int × Int × Int) × (Int × Int)) := sndS L p ++ sendsL p 0 ((L p).take i)
def rcvI (L : Lf) (p i : Nat) : List ((Int × Int × Int) × Bool) := rcvS L p ++ recvL p ((L p).take i)
theorem sndI_0 (L : Lf) (p : Nat) : sndI L p 0 = sndS L p := by unfold sndI; simp [sendsL]
theorem sndI_N (L : Lf) (p : Nat) : sndI L p (L p).length = sndS L (p + 1) := by unfold sndI; rw [List.take_length]; rfl
theorem rcvI_0 (L : Lf) (p : Nat) : rcvI L p 0 = rcvS L p := by unfold rcvI; simp [recvL]
theorem rcvI_N (L : Lf) (p : Nat) : rcvI L p (L p).length = rcvS L (p + 1) := by unfold rcvI; rw [List.take_length]; rfl
theorem sndI_no (hx : (L p)[i]? = some x) (hk : x.k ≠ 1) : sndI L p (i + 1) = sndI L p i := by
 unfold sndI
 rw [take_one hx, sendsL_app]
 simp [sendsL, hk]
theorem rcvI_no (hx : (L p)[i]? = some x) (hk : x.k ≠ 2) : rcvI L p (i + 1) = rcvI L p i := by
 unfold rcvI
 rw [take_one hx, recvL_app]
 simp [recvL, hk]
theorem sndI_put (hx : (L p)[i]? = some x) (hk : x.k = 1) (hok : okL N [] ((L p).take i) = true) (hn : x.n = before ((L p).take i) x) : kset (sndI L p i) ((p : Int), x.p, x.n) ((p : Int), (i : Int)) = sndI L p (i + 1) := by
 have h0 : kget (sndI L p i) ((p : Int), x.p, x.n) = none := by
  unfold sndI
  rw [kget_app, sndS_none L p x.p x.n p (Nat.le_refl _), kget_sends, fnd_fresh (.inl rfl) _ _ (Nat.le_refl _) hok hk (.inr rfl) hn x.n (Int.le_refl _)]
  rfl
 have hi := (List.getElem?_eq_some_iff.1 hx).1
 rw [kset_new _ _ _ h0]
 unfold sndI
 rw [take_one hx, sendsL_app, List.append_assoc]
 simp [sendsL, hk, List.length_take, Nat.min_eq_left (Nat.le_of_lt hi)]
theorem rcvI_get : (kget (rcvI L p i) (x.p, (p : Int), x.n)).isSome = (fnd ((L p).take i) 2 x.p x.n).isSome := by
 unfold rcvI
 rw [kget_app, rcvS_none L p x.p x.n p (Nat.le_refl _), Option.none_or, kget_recv]
theorem rcvI_put (hx : (L p)[i]? = some x) (hk : x.k = 2) (hn : (fnd ((L p).take i) 2 x.p x.n).isSome = false) : kset (rcvI L p i) (x.p, (p : Int), x.n) true = rcvI L p (i + 1) := by
 have h0 : kget (rcvI L p i) (x.p, (p : Int), x.n) = none := by
  rw [← Option.not_isSome_iff_eq_none, rcvI_get, hn]; simp
 rw [kset_new _ _ _ h0]
 unfold rcvI
 rw [take_one hx, recvL_app, List.append_assoc]
 simp [recvL, hk]
def metI (L : Lf) (p i : Nat) (no : Int) : List (Nat × Nat) := match fnd ((L p).take i) 3 0 no with
 | none => []
 | some j => [(p, j)]
theorem metI_no (hx : (L p)[i]? = some x) (hk : x.k ≠ 3) (no : Int) : metI L p (i + 1) no = metI L p i no := by
 unfold metI
 have hf : fits 3 0 no x = false := by unfold fits; simp [hk]
 rw [take_one hx, fnd_app, fnd_cons, hf]
 simp [fnd]
theorem metI_put (hx : (L p)[i]? = some x) (hk : x.k = 3) (hok : okL N [] ((L p).take i) = true) (hn : x.n = before ((L p).take i) x) : metI L p i x.n = [] ∧ metI L p (i + 1) x.n = [(p, i)] ∧ ∀ no, no ≠ x.n → metI L p (i + 1) no = metI L p i no := by
 have h0 := fnd_fresh (p := 0) (.inr rfl) _ _ (Nat.le_refl _) hok hk (.inl rfl) hn x.n (Int.le_refl _)
 have hi := (List.getElem?_eq_some_iff.1 hx).1
 refine ⟨by unfold metI; rw [h0], ?_, fun no hno => ?_⟩
 · unfold metI
   have hf : fits 3 0 x.n x = true := by unfold fits; simp [hk]
   rw [take_one hx, fnd_app, h0, fnd_cons, hf]
   simp [List.length_take, Nat.min_eq_left (Nat.le_of_lt hi)]
 · unfold metI
   have hf : fits 3 0 no x = false := by unfold fits; simp [hk]; exact fun h => hno h.symm
   rw [take_one hx, fnd_app, fnd_cons, hf]
   simp [fnd]
def idxB (N : Nat) (L : Lf) : Bool := ((List.range N).all fun p => okL N [] (L p)) && (List.range N).all fun p => (L p).all fun x => decide (x.k ≠ 2) || (fnd (L x.p.toNat) 1 p x.n).isSome
theorem okL_snoc {pre : List TE} {x : TE} (h1 : okL N [] pre = true) (h2 : okE N pre x = true) : okL N [] (pre ++ [x]) = true := by
 rw [okL_app, h1]; simp [okL, h2]
theorem okL_bad {l : List TE} (hx : l[i]? = some x) (h : okE N (l.take i) x = false) : okL N [] l = false := by
 cases hb : okL N [] l with
 | false => rfl
 | true => rw [okL_at hb hx] at h; cases h
theorem idxB_bad (hp : p < N) (h : okL N [] (L p) = false) : idxB N L = false := by
 unfold idxB
 cases hb : (List.range N).all fun p => okL N [] (L p) with
 | false => rfl
 | true =>
  have := List.all_eq_true.1 hb p (List.mem_range.2 hp)
  rw [h] at this; cases this
theorem rcvS_mem {e : (Int × Int × Int) × Bool} : ∀ {k : Nat}, e ∈ rcvS L k ↔ ∃ p x, p < k ∧ x ∈ L p ∧ x.k = 2 ∧ e = ((x.p, (p : Int), x.n), true)
 | 0 => by simp [rcvS]
 | k + 1 => by
  have ih := @rcvS_mem e k
  unfold rcvS
  rw [List.mem_append, ih, recvL_mem]
  constructor
  · rintro (⟨p, x, h1, h2⟩ | ⟨x, h1, h2⟩)
    · exact ⟨p, x, by omega, h2⟩
    · exact ⟨k, x, by omega, h1, h2⟩
  · rintro ⟨p, x, h1, h2, h3⟩
    by_cases e : p = k
    · subst e; exact .inr ⟨x, h2, h3⟩
    · exact .inl ⟨p, x, by omega, h2, h3⟩
theorem kget_snd {q : Nat} {n : Int} (hq : q < N) (p : Int) : kget (sndS L N) ((q : Int), p, n) = (fnd (L q) 1 p n).map fun (j : Nat) => ((q : Int), (j : Int)) := by
 rw [sndS_eq, kget_sendsA p n _ 0 q (Nat.zero_le _)]
 simp [hq]
theorem idxB_last (hok : ∀ p, p < N → okL N [] (L p) = true) : idxB N L = true ↔ ∀ (i : Nat) (e : (Int × Int × Int) × Bool), (rcvS L N)[i]? = some e → (kget (sndS L N) e.1).isSome = true := by
 have h1 : ((List.range N).all fun p => okL N [] (L p)) = true := List.all_eq_true.2 fun p hp => hok p (List.mem_range.1 hp)
 unfold idxB
 rw [h1, Bool.true_and, List.all_eq_true]
 have peer : ∀ p x, p < N → x ∈ L p → x.k = 2 → ∃ q : Nat, x.p = (q : Int) ∧ q < N := by
   intro p x hp hx hk
   obtain ⟨i, hi, rfl⟩ := List.getElem_of_mem hx
   have := okL_at (hok p hp) (List.getElem?_eq_getElem hi)
   unfold okE at this
   rw [if_neg (by omega), if_pos hk] at this
   simp [peerOk] at this
   exact ⟨((L p)[i]).p.toNat, by omega, by omega⟩
 constructor
 · intro h i e he
   obtain ⟨p, x, hp, hx, hk, rfl⟩ := rcvS_mem.1 (List.mem_of_getElem? he)
   obtain ⟨q, hq, hqN⟩ := peer p x hp hx hk
   have := List.all_eq_true.1 (h p (List.mem_range.2 hp)) x hx
   simp only [hk, ne_eq, not_true_eq_false, decide_false, Bool.false_or] at this
   dsimp only
   rw [hq] at this ⊢
   rw [kget_snd hqN]
   simpa using this
 · intro h p hp
   rw [List.all_eq_true]
   intro x hx
   by_cases hk : x.k = 2
   · have hm : ((x.p, (p : Int), x.n), true) ∈ rcvS L N := rcvS_mem.2 ⟨p, x, List.mem_range.1 hp, hx, hk, rfl⟩
     obtain ⟨i, hi, he⟩ := List.getElem_of_mem hm
     have := h i _ (by rw [List.getElem?_eq_getElem hi, he])
     obtain ⟨q, hq, hqN⟩ := peer p x (List.mem_range.1 hp) hx hk
     dsimp only at this
     rw [hq] at this ⊢
     rw [kget_snd hqN] at this
     simp only [hk, ne_eq, not_true_eq_false, decide_false, Bool.false_or]
     simpa using this
   · simp [hk]
theorem idxB_okl (hi : ∀ p, N ≤ p → L p = []) (h : idxB N L = true) : Okl N L := by
 unfold idxB at h
 rw [Bool.and_eq_true, List.all_eq_true, List.all_eq_true] at h
 refine ⟨hi, fun p i x hx => ?_, fun p x hx hk => ?_⟩
 · by_cases hp : p < N
   · exact okL_at (h.1 p (List.mem_range.2 hp)) hx
   · rw [hi p (by omega)] at hx; simp at hx
 · by_cases hp : p < N
   · have := List.all_eq_true.1 (h.2 p (List.mem_range.2 hp)) x hx
     simpa [hk] using this
   · rw [hi p (by omega)] at hx; cases hx
end
end Go.Arm
namespace Go.Arm
def costBad (x : Int) : Bool := decide (x < 0) || decide (1048576 < x)
def manyB (N : Nat) (L : Lf) : Bool := (List.range N).any fun p => decide (10000 < (L p).length)
def cost4 (C : TC) : Bool := [C.s, C.c, C.r, C.m].any costBad
def errT (N : Nat) (L : Lf) (C : TC) : Int :=
 if N < 1 ∨ 64 < N then 3
 else if manyB N L = true then 9
 else if cost4 C = true then 3
 else if idxB N L = false then 2
 else if doneT N L (timesS N L C) = false then 2
 else 0
section
variable {N : Nat} {L : Lf} {C : TC} {S : Sf}
theorem cost4_ok (h : cost4 C = false) : Okc C := by
 unfold cost4 costBad at h
 simp at h
 exact ⟨by omega, by omega, by omega, by omega⟩
theorem manyB_ok (h : manyB N L = false) {p : Nat} (hp : p < N) : (L p).length ≤ 10000 := by
 unfold manyB at h
 rw [List.any_eq_false] at h
 have := h p (List.mem_range.2 hp)
 simpa using this
theorem Inv.all (hC : Okc C) (hL : Okl N L) : ∀ (k : Nat) {S : Sf}, Inv N L S → Inv N L (allR N L C k S)
 | 0, S, I => I
 | k + 1, S, I => by
  unfold allR
  have h1 := (I.rnd hC hL N (Nat.le_refl _)).1
  split
  · exact Inv.all hC hL k h1
  · exact h1
theorem Inv.times (hC : Okc C) (hL : Okl N L) : Inv N L (timesS N L C) := Inv.all hC hL _ (Inv.nil N L)
structure Good (N : Nat) (L : Lf) (C : TC) : Prop where
 n0 : 0 < N
 n1 : N ≤ 64
 len : ∀ p, p < N → (L p).length ≤ 10000
 c : Okc C
 d : Dn N L (timesS N L C)
theorem errT_ok (hi : ∀ p, N ≤ p → L p = []) (h : errT N L C = 0) : Good N L C := by
 unfold errT at h
 split at h
 · simp at h
 · split at h
   · simp at h
   · split at h
     · simp at h
     · split at h
       · simp at h
       · split at h
         · simp at h
         · rename_i h1 h2 h3 h4 h5
           have hC := cost4_ok (C := C) (by simpa using h3)
           have hL := idxB_okl hi (by simpa using h4)
           exact ⟨by omega, by omega, fun p hp => manyB_ok (by simpa using h2) hp, hC, done_ok (Inv.times hC hL) hL (by simpa using h5)⟩
def owner (N : Nat) (L : Lf) (S : Sf) (a : Nat × Nat) : Nat × Nat := match (L a.1)[a.2]?, (S a.1)[a.2]? with
 | some x, some s => if s.y = 1 then (x.p.toNat, (fnd (L x.p.toNat) 1 a.1 x.n).getD 0)
  else if s.y = 2 then (match opn L S x.n N with
   | some (some c) => (c.2.1, c.2.2)
   | _ => a) else a
 | _, _ => a
theorem Dn.at (D : Dn N L S) {p i : Nat} (h : i < (S p).length) : ∃ x s, (L p)[i]? = some x ∧ (S p)[i]? = some s ∧ okE N ((L p).take i) x = true ∧ p < N ∧
   (s.y = 0 ∧ s.w = 0 ∨ s.y = 1 ∧ x.k = 2 ∧ (∃ q j : Nat, x.p = (q : Int) ∧ q < N ∧ fnd (L q) 1 p x.n = some j ∧ j < (S q).length) ∨ s.y = 2 ∧ x.k = 3 ∧ ∃ c, opn L S x.n N = some (some c) ∧ c.2.1 < N ∧ c.2.2 < (S c.2.1).length) := by
 have hl : i < (L p).length := by rw [← D.d]; exact h
 have hx : (L p)[i]? = some (L p)[i] := List.getElem?_eq_getElem hl
 have hs : (S p)[i]? = some (S p)[i] := List.getElem?_eq_getElem h
 generalize (L p)[i] = x at hx
 generalize (S p)[i] = s at hs
 obtain ⟨rk, R⟩ := D.r
 have hp : p < N := by
   refine Nat.lt_of_not_le fun hle => ?_
   rw [D.g.hi p hle] at h; simp at h
 have hok := D.l.ev p i x hx
 refine ⟨x, s, hx, hs, hok, hp, ?_⟩
 obtain ⟨y1, y2, y3, y4⟩ := R.y1 p i x s hs hx
 rcases y3 with h0 | h1 | h2
 · exact .inl ⟨h0, y4 h0⟩
 · have hk := y1 h1
   refine .inr (.inl ⟨h1, hk, ?_⟩)
   unfold okE at hok
   rw [if_neg (by omega), if_pos hk] at hok
   simp [peerOk] at hok
   have hq : x.p = ((x.p.toNat : Nat) : Int) := by omega
   have hsn := D.l.snt p x (List.mem_of_getElem? hx) hk
   obtain ⟨j, hj⟩ := Option.isSome_iff_exists.1 hsn
   exact ⟨x.p.toNat, j, hq, by omega, hj, (R.rcv p i x h hx hk j hj).1⟩
 · have hk := y2 h2
   refine .inr (.inr ⟨h2, hk, ?_⟩)
   cases ho : opn L S x.n N with
   | none =>
    exfalso
    have : ∀ k, k ≤ N → opn L S x.n k ≠ none := by
     intro k
     induction k with
     | zero => intro _ h; cases h
     | succ k ih =>
      intro hk2 h3
      unfold opn at h3
      split at h3
      · rename_i h4; exact ih (by omega) h4
      · split at h3
        · cases h3
        · rename_i j hj
          split at h3
          · rename_i h5
            have := (R.mt p i x h hx hk k (by omega) j hj).1
            omega
          · cases h3
    exact this N (Nat.le_refl _) ho
   | some c =>
    cases c with
    | none =>
     exfalso
     have h6 := opn_one N ho p hp
     unfold fnd at h6
     rw [List.findIdx?_eq_none_iff] at h6
     have := h6 x (List.mem_of_getElem? hx)
     simp [fits, hk] at this
    | some c =>
     obtain ⟨_, _, hq, hf, _, hle⟩ := D.g.opn x.n N c ho
     refine ⟨c, rfl, hq, ?_⟩
     have h7 : c.2.2 < (L c.2.1).length := by
      unfold fnd at hf
      exact (List.findIdx?_eq_some_iff_findIdx_eq.1 hf).1
     rw [D.d]; exact h7
theorem owner_lt (D : Dn N L S) {a : Nat × Nat} (h : a.2 < (S a.1).length) : (owner N L S a).1 < N ∧ (owner N L S a).2 < (S (owner N L S a).1).length := by
 obtain ⟨p, i⟩ := a
 obtain ⟨x, s, hx, hs, hok, hp, hc⟩ := D.at h
 unfold owner
 dsimp only
 rw [hx, hs]
 dsimp only
 rcases hc with ⟨h0, _⟩ | ⟨h1, hk, q, j, hq, hqN, hj, hjl⟩ | ⟨h2, hk, c, ho, hcN, hcl⟩
 · rw [if_neg (by omega), if_neg (by omega)]; exact ⟨hp, h⟩
 · rw [if_pos h1, hq]
   simp only [Int.toNat_natCast]
   rw [hj]
   exact ⟨hqN, hjl⟩
 · rw [if_neg (by omega), if_pos h2, ho]
   exact ⟨hcN, hcl⟩
theorem cause_owner (D : Dn N L S) {p i : Nat} {s : TS} (hs : (S p)[i]? = some s) : cause N L S (p, i) = if s.y = 1 then some (owner N L S (p, i)) else match owner N L S (p, i) with
   | (_, 0) => none
   | (q, j + 1) => some (q, j) := by
 obtain ⟨x, s', hx, hs', hok, hp, hc⟩ := D.at (List.getElem?_eq_some_iff.1 hs).1
 rw [hs] at hs'; cases hs'
 unfold cause owner
 dsimp only
 rw [hx, hs]
 dsimp only
 rcases hc with ⟨h0, _⟩ | ⟨h1, hk, q, j, hq, hqN, hj, hjl⟩ | ⟨h2, hk, c, ho, hcN, hcl⟩
 · have n1 : ¬ s.y = 1 := by omega
   have n2 : ¬ s.y = 2 := by omega
   simp only [if_neg n1, if_neg n2]
   all_goals (cases i <;> rfl)
 · rw [if_pos h1, if_pos h1, if_pos h1, hq]
   simp only [Int.toNat_natCast]
   rw [hj]
   rfl
 · have n1 : ¬ s.y = 1 := by omega
   simp only [if_neg n1, if_pos h2, ho]
   all_goals (cases c.2.2 <;> rfl)
def addAt (l : List Int) (q : Nat) (w : Int) : List Int := l.set q (wrp ((l[q]?).getD 0 + w))
def blm1 (N : Nat) (L : Lf) (S : Sf) (p : Nat) (acc : List Int) : Nat → List Int
 | 0 => acc
 | i + 1 => match (S p)[i]? with
  | none => blm1 N L S p acc i
  | some s => addAt (blm1 N L S p acc i) (owner N L S (p, i)).1 s.w
def blmA (N : Nat) (L : Lf) (S : Sf) : Nat → List Int
 | 0 => List.replicate N 0
 | p + 1 => blm1 N L S p (blmA N L S p) (S p).length
theorem addAt_len (l : List Int) (q : Nat) (w : Int) : (addAt l q w).length = l.length := by unfold addAt; simp
theorem blm1_len (p : Nat) (acc : List Int) : ∀ i, (blm1 N L S p acc i).length = acc.length
 | 0 => rfl
 | i + 1 => by
  unfold blm1
  split
  · exact blm1_len p acc i
  · rw [addAt_len]; exact blm1_len p acc i
theorem blmA_len : ∀ p, (blmA N L S p).length = N
 | 0 => by unfold blmA; simp
 | p + 1 => by unfold blmA; rw [blm1_len, blmA_len p]
def InR (l : List Int) : Prop := ∀ x, x ∈ l → wrp x = x
theorem wrp_wrp (x : Int) : wrp (wrp x) = wrp x := by
 unfold wrp
 rw [IntKind.wrap_i64, IntKind.wrap_i64]
 omega
theorem addAt_in {l : List Int} (h : InR l) (q : Nat) (w : Int) : InR (addAt l q w) := by
 intro x hx
 unfold addAt at hx
 rcases List.mem_or_eq_of_mem_set hx with h1 | h1
 · exact h x h1
 · rw [h1]; exact wrp_wrp _
theorem addAt_0 {l : List Int} (h : InR l) (q : Nat) : addAt l q 0 = l := by
 unfold addAt
 cases hq : l[q]? with
 | none => 
  rw [List.getElem?_eq_none_iff] at hq
  exact List.set_eq_of_length_le hq
 | some x =>
  simp only [Option.getD_some, Int.add_zero]
  rw [h x (List.mem_of_getElem? hq)]
  apply List.ext_getElem?
  intro i
  rw [List.getElem?_set]
  split
  · rename_i e; subst e
    split
    · exact hq.symm
    · rename_i h5; rw [List.getElem?_eq_none (by omega)]
  · rfl
theorem blm1_in {acc : List Int} (h : InR acc) (p : Nat) : ∀ i, InR (blm1 N L S p acc i)
 | 0 => h
 | i + 1 => by
  unfold blm1
  split
  · exact blm1_in h p i
  · exact addAt_in (blm1_in h p i) _ _
theorem blmA_in : ∀ p, InR (blmA N L S p)
 | 0 => fun x hx => by
  unfold blmA at hx
  rw [List.eq_of_mem_replicate hx]; decide
 | p + 1 => blm1_in (blmA_in p) p _
def wStep (a : Int × Int) (s : TS) : Int × Int := if s.y = 1 then (wrp (a.1 + s.w), a.2) else if s.y = 2 then (a.1, wrp (a.2 + s.w)) else a
def waitsI (l : List TS) (i : Nat) : Int × Int := (l.take i).foldl wStep (0, 0)
theorem waitsI_N (l : List TS) : waitsI l l.length = waitsT l := by unfold waitsI waitsT wStep; rw [List.take_length]
theorem waitsI_step {l : List TS} {i : Nat} {s : TS} (h : l[i]? = some s) : waitsI l (i + 1) = wStep (waitsI l i) s := by
 unfold waitsI
 rw [take_one h, List.foldl_append]
 rfl
noncomputable def pathT (N : Nat) (L : Lf) (S : Sf) : List (Nat × Nat) := match lastT S N with
 | none => []
 | some a => open Classical in if h : ∃ l, Pth N L S (a.1, (S a.1).length - 1) l ∧ l.length ≤ tot N S ∧ ∀ b, b ∈ l → b.2 < (S b.1).length then Classical.choose h else []
theorem pathT_none (h : lastT S N = none) : pathT N L S = [] := by unfold pathT; rw [h]
theorem pathT_ok (D : Dn N L S) {a : Nat × Int} (h : lastT S N = some a) : Pth N L S (a.1, (S a.1).length - 1) (pathT N L S) ∧ (pathT N L S).length ≤ tot N S ∧ ∀ b, b ∈ pathT N L S → b.2 < (S b.1).length := by
 obtain ⟨h1, h2⟩ := lastT_ok N h
 have hl : 0 < (S a.1).length := List.length_pos_iff.2 h2
 have hex := pth_ex D (a.1, (S a.1).length - 1) (by dsimp only; omega)
 unfold pathT
 rw [h]
 dsimp only
 rw [dif_pos hex]
 exact Classical.choose_spec hex
theorem Pth.inv {a : Nat × Nat} {l : List (Nat × Nat)} (h : Pth N L S a l) : (cause N L S a = none ∧ l = [a]) ∨ ∃ b r, cause N L S a = some b ∧ l = a :: r ∧ Pth N L S b r := by
 cases h with
 | last h => exact .inl ⟨h, rfl⟩
 | cons h k => exact .inr ⟨_, _, h, rfl, k⟩
theorem tot_small (g : ∀ p, (S p).length ≤ (L p).length) (hl : ∀ p, p < N → (L p).length ≤ 10000) : tot N S ≤ N * 10000 := by
 have : ∀ k, k ≤ N → tot k S ≤ k * 10000 := by
  intro k
  induction k with
  | zero => intro _; exact Nat.le_refl _
  | succ k ih =>
   intro hk
   have := ih (by omega)
   have := g k
   have := hl k (by omega)
   unfold tot
   omega
 exact this N (Nat.le_refl _)
end
end Go.Arm
namespace Go.Arm
def fndZ (l : List TE) (k p n : Int) : Int := match fnd l k p n with
 | none => -1
 | some j => (j : Int)
theorem fnd_hit {l : List TE} {k p n : Int} {i : Nat} {x : TE} (h0 : fnd (l.take i) k p n = none) (hx : l[i]? = some x) (hf : fits k p n x = true) : fnd l k p n = some i := by
 have hi := (List.getElem?_eq_some_iff.1 hx).1
 have e : l = l.take (i + 1) ++ l.drop (i + 1) := (List.take_append_drop _ _).symm
 rw [e, fnd_app, take_one hx, fnd_app, h0, fnd_cons, hf]
 simp [List.length_take, Nat.min_eq_left (Nat.le_of_lt hi)]
theorem fnd_miss {l : List TE} {k p n : Int} {i : Nat} {x : TE} (h0 : fnd (l.take i) k p n = none) (hx : l[i]? = some x) (hf : fits k p n x = false) : fnd (l.take (i + 1)) k p n = none := by
 rw [take_one hx, fnd_app, h0, fnd_cons, hf]
 simp [fnd]
theorem fndZ_hit {l : List TE} {k p n : Int} {i : Nat} {x : TE} (h0 : fnd (l.take i) k p n = none) (hx : l[i]? = some x) (hf : fits k p n x = true) : fndZ l k p n = (i : Int) := by
 unfold fndZ; rw [fnd_hit h0 hx hf]
theorem fndZ_end {l : List TE} {k p n : Int} (h0 : fnd (l.take l.length) k p n = none) : fndZ l k p n = -1 := by
 rw [List.take_length] at h0
 unfold fndZ; rw [h0]
theorem fndZ_some {l : List TE} {k p n : Int} {j : Nat} (h : fnd l k p n = some j) : fndZ l k p n = (j : Int) := by unfold fndZ; rw [h]
theorem fndZ_none {l : List TE} {k p n : Int} (h : fnd l k p n = none) : fndZ l k p n = -1 := by unfold fndZ; rw [h]
theorem fndZ_lt (l : List TE) (k p n : Int) : decide (fndZ l k p n < 0) = (fnd l k p n).isNone := by
 unfold fndZ
 cases fnd l k p n with
 | none => rfl
 | some j => simp
theorem fits_five (k p n : Int) (x : TE) : (x.k ≠ k ∧ fits k p n x = false) ∨ (x.k = k ∧ x.n ≠ n ∧ fits k p n x = false) ∨ (x.k = k ∧ x.n = n ∧ k = 3 ∧ fits k p n x = true) ∨ (x.k = k ∧ x.n = n ∧ k ≠ 3 ∧ x.p = p ∧ fits k p n x = true) ∨ (x.k = k ∧ x.n = n ∧ k ≠ 3 ∧ x.p ≠ p ∧ fits k p n x = false) := by
 unfold fits
 by_cases h1 : x.k = k
 · by_cases h2 : x.n = n
   · by_cases h3 : k = 3
     · simp [h1, h2, h3]
     · by_cases h4 : x.p = p
       · simp [h1, h2, h3, h4]
       · simp [h1, h2, h3, h4]
   · simp [h1, h2]
 · simp [h1]
theorem before_four (x y : TE) : (y.k ≠ x.k ∧ sameT x y = false) ∨ (y.k = x.k ∧ x.k = 3 ∧ sameT x y = true) ∨ (y.k = x.k ∧ x.k ≠ 3 ∧ y.p = x.p ∧ sameT x y = true) ∨ (y.k = x.k ∧ x.k ≠ 3 ∧ y.p ≠ x.p ∧ sameT x y = false) := by
 unfold sameT
 by_cases h1 : y.k = x.k
 · by_cases h3 : x.k = 3
   · simp [h1, h3]
   · by_cases h4 : y.p = x.p
     · simp [h1, h3, h4]
     · simp [h1, h3, h4]
 · simp [h1]
theorem before_step {l : List TE} {i : Nat} {x y : TE} (hy : l[i]? = some y) : before (l.take (i + 1)) x = before (l.take i) x + if sameT x y then 1 else 0 := by
 rw [take_one hy, before_app]
 unfold before
 by_cases h : sameT x y = true
 · simp [h]
 · simp [h]
theorem before_le (l : List TE) (x : TE) : before l x ≤ l.length := List.countP_le_length
def frm (N : Nat) (L : Lf) (p i : Nat) (x : TE) : Bool := okE N ((L p).take i) x && (decide (x.k ≠ 2) || (fnd (L x.p.toNat) 1 p x.n).isSome)
theorem frm_bad {N : Nat} {L : Lf} {p i : Nat} {x : TE} (hp : p < N) (hx : (L p)[i]? = some x) (h : frm N L p i x = false) : idxB N L = false := by
 unfold frm at h
 cases h1 : okE N ((L p).take i) x with
 | false => exact idxB_bad hp (okL_bad hx h1)
 | true =>
  rw [h1, Bool.true_and] at h
  unfold idxB
  have : ((List.range N).all fun p => (L p).all fun x => decide (x.k ≠ 2) || (fnd (L x.p.toNat) 1 p x.n).isSome) = false := by
   refine List.all_eq_false.2 ⟨p, List.mem_range.2 hp, ?_⟩
   rw [Bool.not_eq_true]
   refine List.all_eq_false.2 ⟨x, List.mem_of_getElem? hx, ?_⟩
   rw [h]; simp
  rw [this, Bool.and_false]
theorem frm_all {N : Nat} {L : Lf} (h : ∀ p i x, p < N → (L p)[i]? = some x → frm N L p i x = true) : idxB N L = true := by
 unfold idxB
 rw [Bool.and_eq_true]
 refine ⟨List.all_eq_true.2 fun p hp => ?_, List.all_eq_true.2 fun p hp => List.all_eq_true.2 fun x hx => ?_⟩
 · have hp := List.mem_range.1 hp
   have key : ∀ i, i ≤ (L p).length → okL N [] ((L p).take i) = true := by
    intro i
    induction i with
    | zero => intro _; rfl
    | succ i ih =>
     intro hi
     have hx : (L p)[i]? = some ((L p)[i]'(by omega)) := List.getElem?_eq_getElem _
     have h1 := h p i _ hp hx
     unfold frm at h1
     rw [Bool.and_eq_true] at h1
     rw [take_one hx]
     exact okL_snoc (ih (by omega)) h1.1
   have := key _ (Nat.le_refl _)
   rwa [List.take_length] at this
 · have hp := List.mem_range.1 hp
   obtain ⟨i, hi, rfl⟩ := List.getElem_of_mem hx
   have h1 := h p i _ hp (List.getElem?_eq_getElem hi)
   unfold frm at h1
   rw [Bool.and_eq_true] at h1
   exact h1.2
theorem opn_stays {L : Lf} {S : Sf} {no : Int} {k : Nat} (h : opn L S no k = none) : ∀ m, k ≤ m → opn L S no m = none
 | 0, hm => by
  have : k = 0 := by omega
  subst this; exact h
 | m + 1, hm => by
  by_cases e : k = m + 1
  · subst e; exact h
  · have := opn_stays h m (by omega)
    unfold opn; rw [this]
def accP : Option (Int × Nat × Nat) → Int
 | none => -1
 | some a => (a.2.1 : Int)
end Go.Arm
