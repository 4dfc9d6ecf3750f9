/- Parts of the closed evaluator. -/
import Derived.Test.YtlgakeilplnfmaaGreatDoorZd
namespace Go.X
noncomputable section
open Go Go.RowKit
variable {w0 w w' : World} {φ φ' φ0 : Phi} {h h' h0 h1 h2 : AH} {P : Program} {n : Nat} {t t' tb t1 t2 : T Value} {ops : Array Oper} {ls ms : List Nat}
def lvN (ops : Array Oper) (ls : List Nat) (L : Nat) : List Nat := (List.range ops.size).filter fun i => !isE ops i && decide (ls.getD i 0 = L)
def lvE (ops : Array Oper) (ls : List Nat) (L : Nat) : Option Nat := (List.range ops.size).find? fun i => isE ops i && decide (ls.getD i 0 = L)
open Classical in
def propB (p : Prop) : Bool := decide p
open Classical in
theorem propB_true {p : Prop} (h : p) : propB p = true := by unfold propB; exact decide_eq_true h
open Classical in
theorem propB_of {p : Prop} (h : propB p = true) : p := by unfold propB at h; exact of_decide_eq_true h
def recheck (P : Program) (n : Nat) (ops : Array Oper) (l : List Nat) (t : T Value) (h : AH) : Bool := l.all fun i => match ops[i]? with
 | none => true
 | some o => if opK o.op = 2 then (if aWant n t ops o then (match aVal P n t h o.op, o.dst with
  | some v, some d => veq 9 v (vt t d) || propB (v = vt t d)
  | some _, none => true
  | none, _ => false) else true) else true
def aCont (P : Program) (call : Call1) (n : Nat) (ops : Array Oper) (ls ms : List Nat) (rec : Nat → List Nat → T Value → AH → Option (List (T Value × AH))) (L : Nat) (seen : List Nat) (t : T Value) (h : AH) : Option (List (T Value × AH)) :=
 match lvE ops ls L with
 | none => some [(t, h)]
 | some e => match ops[e]? with
  | none => none
  | some o => if aWant n t ops o then bindL (aStep P call n t h o.op) fun p => (match aPut n t o.dst p.1 with
    | some t2 => rec (L + 1) ((seen ++ lvN ops ls L).filter fun i => !(ms.getD e 0).testBit i) t2 p.2
    | none => none)
   else (match aPut n t o.dst undef with
    | some t2 => rec (L + 1) ((seen ++ lvN ops ls L).filter fun i => !(ms.getD e 0).testBit i) t2 h
    | none => none)
def aLv (P : Program) (call : Call1) (n : Nat) (ops : Array Oper) (ls ms : List Nat) : Nat → Nat → List Nat → T Value → AH → Option (List (T Value × AH))
 | 0, _, _, _, _ => none
 | k + 1, L, seen, t, h => match aNs P n ops (lvN ops ls L) t h with
  | none => none
  | some (t1, h1) => if recheck P n ops (seen ++ lvN ops ls L) t1 h1 then aCont P call n ops ls ms (aLv P call n ops ls ms k) L seen t1 h1 else none
def sameOp {α : Type} (f : α → α → Bool) : Option α → Option α → Bool
 | none, none => true
 | some a, some b => f a b
 | _, _ => false
def sameT {α : Type} (f : α → α → Bool) : T α → T α → Bool
 | .e, .e => true
 | .n l v r, .n l' v' r' => sameT f l l' && (sameOp f v v' && sameT f r r')
 | _, _ => false
def sameEs : List (Value × Value × Nat) → List (Value × Value × Nat) → Bool
 | [], [] => true
 | (a, b, c) :: l, (a', b', c') :: l' => veq 9 a a' && (veq 9 b b' && (Nat.beq c c' && sameEs l l'))
 | _, _ => false
def sameNs : List Nat → List Nat → Bool
 | [], [] => true
 | a :: l, b :: m => Nat.beq a b && sameNs l m
 | _, _ => false
def sameBag : List (ByteArray × Value) → List (ByteArray × Value) → Bool
 | [], [] => true
 | (a, v) :: l, (b, u) :: m => sameB a b && (veq 9 v u && sameBag l m)
 | _, _ => false
def sameO : AObj → AObj → Bool
 | .cells c n op ro, .cells c' n' op' ro' => sameT (veq 9) c c' && (Nat.beq n n' && (Nat.beq op op' && (ro == ro')))
 | .map es cl ro, .map es' cl' ro' => sameEs es es' && (Nat.beq cl cl' && (ro == ro'))
 | .dfr, .dfr => true
 | .bag es, .bag es' => sameBag es es'
 | .tcells ty c n op, .tcells ty' c' n' op' => Nat.beq ty ty' && (sameT (veq 9) c c' && (Nat.beq n n' && Nat.beq op op'))
 | .iter m since seen st, .iter m' since' seen' st' => sameOp Nat.beq m m' && (Nat.beq since since' && (sameNs seen seen' && Nat.beq st st'))
 | .sit s p, .sit s' p' => sameBs s.data.toList s'.data.toList && Nat.beq p p'
 | _, _ => false
def sameH (h h' : AH) : Bool := Nat.beq h.next h'.next && sameT sameO h.m h'.m
def sameOut (p q : T Value × AH) : Bool := sameT (veq 9) p.1 q.1 && sameH p.2 q.2
def isReady (ops : Array Oper) (left : List Nat) (i : Nat) : Bool := match ops[i]? with
 | some o => (edgesOf o).all fun j => Nat.blt j ops.size && !left.contains j
 | none => false
def allL {α β : Type} (f : α → Option (List β)) : List α → Option (List β)
 | [] => some []
 | a :: l => (match f a, allL f l with
  | some x, some y => some (x ++ y)
  | _, _ => none)
def aAll (P : Program) (call : Call1) (n : Nat) (ops : Array Oper) : Nat → List Nat → T Value → AH → Option (List (T Value × AH))
 | _, [], t, h => some [(t, h)]
 | 0, _ :: _, _, _ => none
 | k + 1, i :: r, t, h => (match (i :: r).filter (isReady ops (i :: r)) with
  | [] => none
  | rd => allL (fun j => (match ops[j]? with
  | some o => (match aWant n t ops o with
   | true => bindL (aStep P call n t h o.op) fun p => (match aPut n t o.dst p.1 with
    | some t' => aAll P call n ops k ((i :: r).filter fun x => !Nat.beq x j) t' p.2
    | none => none)
   | false => (match aPut n t o.dst undef with
    | some t' => aAll P call n ops k ((i :: r).filter fun x => !Nat.beq x j) t' h
    | none => none))
  | none => none)) rd)
def addEdge (i : Nat) : Nat → List Oper → List Oper
 | _, [] => []
 | 0, o :: l => { o with after := ⟨o.after.toList ++ [⟨i, .data⟩]⟩ } :: l
 | k + 1, o :: l => o :: addEdge i k l
def withEdge (ops : Array Oper) (i j : Nat) : Array Oper := ⟨addEdge i j ops.toList⟩
abbrev Fk := Nat → T Value → AH → Option (List (T Value × AH))
def mergeO (lo o : List (T Value × AH)) : List (T Value × AH) := lo ++ o.filter fun x => !(lo.any fun y => sameOut x y)
def fLv (P : Program) (call : Call1) (n : Nat) (ops : Array Oper) (ls ms : List Nat) (fk : Fk) : Nat → Nat → List Nat → T Value → AH → Option (List (T Value × AH))
 | 0, _, _, _, _ => none
 | k + 1, L, seen, t, h => match aNs P n ops (lvN ops ls L) t h with
  | none => none
  | some (t1, h1) => if recheck P n ops (seen ++ lvN ops ls L) t1 h1 then (match fk L t1 h1, aCont P call n ops ls ms (fLv P call n ops ls ms fk k) L seen t1 h1 with
   | some o, some lo => some (mergeO lo o)
   | _, _ => none) else none
def setSlot (ops : Array Oper) (t1 : T Value) (k : Nat) (t : T Value) : T Value := match dstAt ops k with
 | some d => t.set d (some (vt t1 d))
 | none => t
def setSlots (ops : Array Oper) (t1 : T Value) : List Nat → T Value → T Value
 | [], t => t
 | k :: r, t => setSlots ops t1 r (setSlot ops t1 k t)
def subs : List Nat → List (List Nat)
 | [] => [[]]
 | x :: l => subs l ++ (subs l).map (x :: ·)
def cands (ops : Array Oper) (ls : List Nat) (L : Nat) : List (List Nat) :=
 ((subs ((List.range ops.size).filter fun k => !isE ops k)).map fun U => (List.range ops.size).filter fun k => if isE ops k then Nat.ble L (ls.getD k 0) else U.contains k).filter
  fun left => (List.range ops.size).all fun k => left.contains k || (match ops[k]? with
   | some o => (edgesOf o).all fun j => !left.contains j
   | none => true)
def pairOk (ops : Array Oper) (ls : List Nat) (i j : Nat) : Bool := isE ops i && (Nat.beq (ls.getD i 0) 0 || (match ops[j]? with
 | some o => (edgesOf o).any fun e => decide (step1 ops ls e = ls.getD i 0)
 | none => false))
def aFork (P : Program) (call : Call1) (n : Nat) (ops : Array Oper) (ls : List Nat) (i : Nat) (tb : T Value) : Fk := fun L t1 h1 =>
 if Nat.beq L (ls.getD i 0) then allL (fun left => aAll P call n ops ops.size left (setSlots ops t1 ((List.range ops.size).filter fun k => !left.contains k) tb) h1) (cands ops ls L) else some []
def aDraw2 (P : Program) (call : Call1) (n : Nat) (ops A : Array Oper) (ls ms : List Nat) (i j : Nat) (t : T Value) (h : AH) : Option (List (T Value × AH)) :=
 if planOk n A ls ms && pairOk ops ls i j then fLv P call n A ls ms (aFork P call n ops ls i t) (ops.size + 1) 0 [] t h else none
def pairOf (ls : List Nat) : List Nat → Option (Nat × Nat)
 | [] => none
 | i :: r => (match r.find? fun j => Nat.beq (ls.getD j 0) (ls.getD i 0) with
  | some j => some (i, j)
  | none => pairOf ls r)
def aDrawP (P : Program) (call : Call1) (n : Nat) (ops : Array Oper) (t : T Value) (h : AH) : Option (List (T Value × AH)) :=
 match pairOf (levL ops) ((List.range ops.size).filter (isE ops)) with
 | none => none
 | some (i, j) => aDraw2 P call n ops (withEdge ops i j) (levL (withEdge ops i j)) (maskL (withEdge ops i j)) i j t h
def aDraw (P : Program) (call : Call1) (n : Nat) (ops : Array Oper) (t : T Value) (h : AH) : Option (List (T Value × AH)) :=
 if planOk n ops (levL ops) (maskL ops) then aLv P call n ops (levL ops) (maskL ops) (ops.size + 1) 0 [] t h else aDrawP P call n ops t h
structure Core (w0 : World) (P : Program) (n : Nat) (ops : Array Oper) (φ0 : Phi) (h0 : AH) (tb : T Value) (d0 : List Deferred) (done : Nat → Prop) (sn : List Nat) (t1 : T Value) (h1 : AH) (φ : Phi) (b : Nat → Nat)
  (lst : Nat → Prop) (a : Act) (w : World) : Prop where
 ld : ∀ i, i < ops.size → lst i → done i
 ed : ∀ i, i < ops.size → isE ops i = true → done i → lst i
 r : R w0 φ h1 w
 nx : Nx φ0 φ h0 h1
 size : a.tmps.size = n
 fw : ∀ s u j, a.tmps[s]? = some u → lst j → dstAt ops j = some s → VR φ (vt t1 s) u
 fb : ∀ s u, a.tmps[s]? = some u → (∀ j, lst j → dstAt ops j ≠ some s) → VR φ (vt tb s) u
 df : a.defers = d0
 tt : ∀ s, (∀ j, dstAt ops j = some s → ¬ done j) → vt t1 s = vt tb s
 nn : ∀ (i : Nat) (o : Oper), ops[i]? = some o → isE ops i = false → done i → ¬ lst i → ∃ q hh,
  (∀ s, s ∈ slots o.op → (∀ j, j ∈ edgesOf o → dstAt ops j = some s → vt q s = vt t1 s) ∧ ((∀ j, j ∈ edgesOf o → dstAt ops j ≠ some s) → vt q s = vt tb s)) ∧
  (∀ s, gslot ops o = some s → vt q s = vt t1 s) ∧ NFact P n ops o q hh t1 h1 (b i / 2) ∧ (opK o.op = 3 → aWant n q ops o = true → φ (b i / 2) = none ∧ b i % 2 = 0)
 bb : ∀ i j, i < ops.size → j < ops.size → isE ops i = false → isE ops j = false → done i → done j → i ≠ j → b i ≠ b j
 bl : ∀ i, i < ops.size → isE ops i = false → done i → (h0.next ≤ b i / 2 ∧ b i / 2 < h1.next ∧ b i % 2 = 0) ∨ b i = 2 * i + 1
 sn : ∀ (i : Nat) (o : Oper), ops[i]? = some o → opK o.op = 2 → done i → ¬ lst i → i ∈ sn
theorem R.ghosts (r : R w0 φ h w) (hle : h.next ≤ h'.next) (ht : T.Ok (h'.next)) (hg : ∀ b, b < h.next → h'.m.get b = h.m.get b) : R w0 φ h' w := by
 have e : ∀ {b i}, φ b = some i → h'.m.get b = h.m.get b := fun hb => hg _ (r.lt _ _ hb).2
 exact ⟨fun b i o hi ho => r.dom b i o hi (by rw [← e hi]; exact ho), fun b i o hi ho => r.low b i o hi (by rw [← e hi]; exact ho),
  fun b b' i i' o o' hi hi' ho ho' => r.inj b b' i i' o o' hi hi' (by rw [← e hi]; exact ho) (by rw [← e hi']; exact ho'), fun b i hi => ⟨(r.lt b i hi).1, Nat.lt_of_lt_of_le (r.lt b i hi).2 hle⟩, ht, r.below⟩
theorem mem_lvN {i L : Nat} : i ∈ lvN ops ls L ↔ i < ops.size ∧ isE ops i = false ∧ ls.getD i 0 = L := by
 unfold lvN
 rw [List.mem_filter, List.mem_range]
 simp
theorem lvN_pw (L : Nat) : (lvN ops ls L).Pairwise (· < ·) := by
 unfold lvN
 exact List.Pairwise.filter _ List.pairwise_lt_range
theorem isE_of {i : Nat} {o : Oper} (ho : ops[i]? = some o) : isE ops i = (opK o.op == 0) := by unfold isE; rw [ho]
theorem enter_ok (sp : PlanSpec n ops ls ms) (hn : T.Ok (n)) {d0 : List Deferred} {L : Nat} {seen : List Nat} {b : Nat → Nat} {lst : Nat → Prop} {a : Act}
   (c : Core w0 P n ops φ0 h0 tb d0 (fun i => ls.getD i 0 < L) seen t h φ b lst a w) (hs : aNs P n ops (lvN ops ls L) t h = some (t1, h1)) (hr : recheck P n ops (seen ++ lvN ops ls L) t1 h1 = true) :
   ∃ b', Core w0 P n ops φ0 h0 tb d0 (fun i => ls.getD i 0 < L ∨ (isE ops i = false ∧ ls.getD i 0 = L)) (seen ++ lvN ops ls L) t1 h1 φ b' lst a w ∧
     ∀ (i : Nat) (o : Oper), ops[i]? = some o → opK o.op = 2 → (ls.getD i 0 < L ∨ (isE ops i = false ∧ ls.getD i 0 = L)) → ¬ lst i → aWant n t1 ops o = true → ∃ v, aVal P n t1 h1 o.op = some v ∧ ∀ d, o.dst = some d → vt t1 d = v := by
 obtain ⟨⟨a1, a2, a3⟩, a4, bn, a5, a6⟩ := aNs_spec sp hn _ (lvN_pw L) hs c.r.nx
 have keep : ∀ s j, dstAt ops j = some s → ls.getD j 0 ≠ L → vt t1 s = vt t s := fun s j hd hl => a4 s (fun i hi hdi => by
   have := (sp.dst j s hd).2 i hdi
   subst this
   exact hl (mem_lvN.1 hi).2.2)
 have none_t1 : ∀ s, (∀ j, dstAt ops j = some s → ¬ (ls.getD j 0 < L ∨ (isE ops j = false ∧ ls.getD j 0 = L))) → vt t1 s = vt tb s := fun s hs => by
   rw [a4 s (fun i hi hdi => hs i hdi (.inr (mem_lvN.1 hi).2)), c.tt s (fun j hd hl => hs j hd (.inl hl))]
 have gst : ∀ {i : Nat} {o : Oper} {s : Nat}, ops[i]? = some o → gslot ops o = some s → ∃ g, g ∈ edgesOf o ∧ dstAt ops g = some s := by
   intro i o s ho hg
   unfold gslot at hg
   cases hq : o.guard with
   | none => rw [hq] at hg; cases hg
   | some p =>
     obtain ⟨g, q⟩ := p
     rw [hq] at hg
     exact ⟨g, sp.guard i o g q ho hq, hg⟩
 -- an edge's writer has been taken before
 have edge_lt : ∀ {i : Nat} {o : Oper} {j : Nat}, ops[i]? = some o → j ∈ edgesOf o → j < i ∧ (ls.getD j 0 < ls.getD i 0 ∨ (isE ops j = false ∧ ls.getD j 0 ≤ ls.getD i 0)) := by
   intro i o j ho hj
   obtain ⟨e1, e2⟩ := sp.edge i o j ho hj
   refine ⟨e1, ?_⟩
   unfold step1 at e2
   cases hE : isE ops j with
   | true => rw [hE] at e2; simp only [if_true] at e2; left; omega
   | false => rw [hE] at e2; right; exact ⟨rfl, by simpa using e2⟩
 have fact : ∀ (i : Nat) (o : Oper), ops[i]? = some o → isE ops i = false → (ls.getD i 0 < L ∨ (isE ops i = false ∧ ls.getD i 0 = L)) → ¬ lst i → ∃ q hh,
     (∀ s, s ∈ slots o.op → (∀ j, j ∈ edgesOf o → dstAt ops j = some s → vt q s = vt t1 s) ∧ ((∀ j, j ∈ edgesOf o → dstAt ops j ≠ some s) → vt q s = vt tb s)) ∧
     (∀ s, gslot ops o = some s → vt q s = vt t1 s) ∧ NFact P n ops o q hh t1 h1 ((if ls.getD i 0 = L then bn i else b i) / 2) ∧ (opK o.op = 3 → aWant n q ops o = true → φ ((if ls.getD i 0 = L then bn i else b i) / 2) = none ∧ (if ls.getD i 0 = L then bn i else b i) % 2 = 0) := by
   intro i o ho hE hd hl
   have hdi := dstAt_eq ho
   by_cases hL : ls.getD i 0 = L
   · have hi : i ∈ lvN ops ls L := mem_lvN.2 ⟨(Array.getElem?_eq_some_iff.1 ho).1, hE, hL⟩
     obtain ⟨c1, o', q, hh, c2, c3, c4, c5, c6⟩ := a5 i hi
     rw [ho] at c2; cases c2
     rw [if_pos hL]
     have edgew : ∀ s j, j ∈ edgesOf o → dstAt ops j = some s → vt q s = vt t1 s := by
       intro s j hj hds
       obtain ⟨e1, e2⟩ := edge_lt ho hj
       by_cases hjr : j ∈ lvN ops ls L
       · exact c4 s j hjr e1 hds
       · have hne : ls.getD j 0 ≠ L := fun e => by
           rcases e2 with e2 | e2
           · omega
           · exact hjr (mem_lvN.2 ⟨dstAt_lt hds, e2.1, e⟩)
         rw [keep s j hds hne]
         exact c3 s (fun j2 hj2 _ hd2 => by
           have := (sp.dst j s hds).2 j2 hd2
           subst this; exact hjr hj2)
     refine ⟨q, hh, fun s hs => ⟨fun j hj hds => edgew s j hj hds, fun hno => ?_⟩, fun s hg => ?_, c5, fun hk3 hw => ?_⟩
     · have hw : ∀ j, dstAt ops j = some s → i < j ∧ ls.getD i 0 ≤ ls.getD j 0 := by
         intro j hds
         rcases sp.slot i o s j ho hs hds with h5 | h5
         · exact (hno j h5 hds).elim
         · have hjo : ops[j]? = some (ops[j]'(dstAt_lt hds)) := Array.getElem?_eq_getElem (dstAt_lt hds)
           unfold edgeTo at h5
           rw [hjo] at h5
           have hji : i ∈ edgesOf (ops[j]'(dstAt_lt hds)) := by simpa using h5.1
           have := edge_lt hjo hji
           exact ⟨this.1, by rcases this.2 with h6 | h6 <;> omega⟩
       rw [c3 s (fun j _ hlt hds => by have := hw j hds; omega)]
       exact c.tt s (fun j hds hlt => by have := hw j hds; omega)
     · obtain ⟨g, hg1, hg2⟩ := gst ho hg
       exact edgew s g hg1 hg2
     · refine ⟨?_, c6 hk3 hw⟩
       cases hφ : φ (bn i / 2) with
       | none => rfl
       | some im =>
         have := (c.r.lt _ _ hφ).2
         have h6 := c6 hk3 hw
         rcases c1 with c1 | c1 <;> omega
   · have hlt : ls.getD i 0 < L := by rcases hd with hd | hd; exact hd; exact (hL hd.2).elim
     obtain ⟨q, hh, q1, q2, q3, q4⟩ := c.nn i o ho hE hlt hl
     rw [if_neg hL]
     have edgew : ∀ s j, j ∈ edgesOf o → dstAt ops j = some s → vt t1 s = vt t s := by
       intro s j hj hds
       have := edge_lt ho hj
       exact keep s j hds (by rcases this.2 with h6 | h6 <;> omega)
     refine ⟨q, hh, fun s hs => ⟨fun j hj hds => ?_, fun hno => (q1 s hs).2 hno⟩, fun s hg => ?_, ?_, q4⟩
     · rw [(q1 s hs).1 j hj hds, edgew s j hj hds]
     · obtain ⟨g, hg1, hg2⟩ := gst ho hg
       rw [q2 s hg, edgew s g hg1 hg2]
     · have hdst : ∀ d, o.dst = some d → vt t1 d = vt t d := fun d hd => keep d i (by rw [hdi]; exact hd) hL
       rcases q3 with ⟨hw, ⟨hk, v, hv, hd⟩ | ⟨hk, al, mk, hal, hb1, hb2, hd⟩⟩ | ⟨hw, hd⟩
       · exact .inl ⟨hw, .inl ⟨hk, v, hv, fun d hd' => by rw [hdst d hd', hd d hd']⟩⟩
       · exact .inl ⟨hw, .inr ⟨hk, al, mk, hal, by omega, by rw [a3 _ hb1]; exact hb2, fun d hd' => by rw [hdst d hd', hd d hd']⟩⟩
       · exact .inr ⟨hw, fun d hd' => by rw [hdst d hd', hd d hd']⟩
 refine ⟨fun i => if ls.getD i 0 = L then bn i else b i, ⟨fun i hi hl => .inl (c.ld i hi hl), fun i hi hE hd => ?_, c.r.ghosts a1 a2 a3, ?_, c.size, fun s u j hu hl hds => ?_, c.fb, c.df, none_t1, fact, fun i j hi hj hEi hEj hdi hdj hij => ?_, fun i hi hE hd => ?_, fun i o ho hk hd hl => ?_⟩, ?_⟩
 · rcases hd with hd | hd
   · exact c.ed i hi hE hd
   · rw [hE] at hd; cases hd.1
 · exact ⟨c.nx.le, Nat.le_trans c.nx.next a1, fun k hk hlt => ⟨(c.nx.ghost k hk hlt).1, (a3 k (Nat.lt_of_lt_of_le hlt c.nx.next)).trans (c.nx.ghost k hk hlt).2⟩⟩
 · have := c.ld j (dstAt_lt hds) hl
   rw [keep s j hds (by omega)]
   exact c.fw s u j hu hl hds
 · by_cases e1 : ls.getD i 0 = L
   · have hi' : i ∈ lvN ops ls L := mem_lvN.2 ⟨hi, hEi, e1⟩
     rw [if_pos e1]
     by_cases e2 : ls.getD j 0 = L
     · rw [if_pos e2]
       exact a6 i j hi' (mem_lvN.2 ⟨hj, hEj, e2⟩) hij
     · rw [if_neg e2]
       have c1 := (a5 i hi').1
       have c2 := c.bl j hj hEj (by rcases hdj with h5 | h5; exact h5; exact (e2 h5.2).elim)
       rcases c1 with c1 | c1 <;> rcases c2 with c2 | c2 <;> omega
   · rw [if_neg e1]
     have hi2 : ls.getD i 0 < L := by rcases hdi with h5 | h5; exact h5; exact (e1 h5.2).elim
     by_cases e2 : ls.getD j 0 = L
     · have hj' : j ∈ lvN ops ls L := mem_lvN.2 ⟨hj, hEj, e2⟩
       rw [if_pos e2]
       have c1 := (a5 j hj').1
       have c2 := c.bl i hi hEi hi2
       rcases c1 with c1 | c1 <;> rcases c2 with c2 | c2 <;> omega
     · rw [if_neg e2]
       exact c.bb i j hi hj hEi hEj hi2 (by rcases hdj with h5 | h5; exact h5; exact (e2 h5.2).elim) hij
 · by_cases e1 : ls.getD i 0 = L
   · rw [if_pos e1]
     have c1 := (a5 i (mem_lvN.2 ⟨hi, hE, e1⟩)).1
     rcases c1 with c1 | c1
     · exact .inl ⟨Nat.le_trans c.nx.next c1.1, c1.2⟩
     · exact .inr c1
   · rw [if_neg e1]
     rcases c.bl i hi hE (by rcases hd with h5 | h5; exact h5; exact (e1 h5.2).elim) with c2 | c2
     · exact .inl ⟨c2.1, Nat.lt_of_lt_of_le c2.2.1 a1, c2.2.2⟩
     · exact .inr c2
 · rcases hd with hd | hd
   · exact List.mem_append_left _ (c.sn i o ho hk hd hl)
   · exact List.mem_append_right _ (mem_lvN.2 ⟨(Array.getElem?_eq_some_iff.1 ho).1, hd⟩)
 · intro i o ho hk hd hl hw
   have hin : i ∈ seen ++ lvN ops ls L := by
     rcases hd with hd | hd
     · exact List.mem_append_left _ (c.sn i o ho hk hd hl)
     · exact List.mem_append_right _ (mem_lvN.2 ⟨(Array.getElem?_eq_some_iff.1 ho).1, hd⟩)
   have := List.all_eq_true.1 hr i hin
   rw [ho] at this
   dsimp only at this
   rw [if_pos hk, if_pos hw] at this
   cases hv : aVal P n t1 h1 o.op with
   | none => rw [hv] at this; simp at this
   | some v =>
     refine ⟨v, rfl, fun d hd => ?_⟩
     rw [hv, hd] at this
     dsimp only at this
     rw [Bool.or_eq_true] at this
     rcases this with this | this
     · exact (veq_eq 9 _ _ this).symm
     · exact (propB_of this).symm
end
end Go.X
namespace Go.X
noncomputable section
open Go Go.RowKit
variable {w0 w w' : World} {φ φ' φ0 : Phi} {h h' h0 h1 h2 : AH} {P : Program} {n : Nat} {t t' tb t1 t2 : T Value} {ops : Array Oper} {ls ms : List Nat}
theorem countF_set {l : Array Bool} {i : Nat} (h : l.getD i true = false) : ((l.setIfInBounds i true).toList.countP (fun b => !b)) + 1 = l.toList.countP (fun b => !b) := by
 have hi : i < l.size := by
  rcases Nat.lt_or_ge i l.size with h' | h'
  · exact h'
  · rw [Array.getD_eq_getD_getElem?, Array.getElem?_eq_none h'] at h; simp at h
 have he : l.toList[i]'(by simpa using hi) = false := by
  rw [Array.getD_eq_getD_getElem?, Array.getElem?_eq_getElem hi] at h
  simpa using h
 rw [Array.toList_setIfInBounds]
 exact aux _ i _ he
where
 aux : ∀ (m : List Bool) (i : Nat) (h : i < m.length), m[i] = false → (m.set i true).countP (fun b => !b) + 1 = m.countP (fun b => !b)
  | [], i, h, _ => by simp at h
  | b :: m, 0, _, he => by simp at he; subst he; simp
  | b :: m, i + 1, h, he => by
    simp only [List.set_cons_succ, List.countP_cons]
    have := aux m i (by simpa using h) (by simpa using he)
    omega
theorem R.bindGhost (r : R w0 φ h w) {b : Nat} {al : Al} {mk : Mk} {x : Obj} (hφ : φ b = none) (hlt : b < h.next) (hg : h.m.get b = some al.obj) (hk : al.ok mk = true) (ha : AlR φ al x) :
   ∃ φ', Le φ φ' ∧ φ' b = some (al.im w.heap.size) ∧ (∀ k, k ≠ b → φ' k = φ k) ∧ R w0 φ' h (w.alloc x) := by
 have hc : (al.im w.heap.size).c = w.heap.size := by cases al <;> rfl
 have le : Le φ (fun k => if k = b then some (al.im w.heap.size) else φ k) := by
   intro k j hj
   show (if k = b then _ else φ k) = some j
   rw [if_neg (fun e => by subst e; rw [hφ] at hj; cases hj)]; exact hj
 have hnew : (w.alloc x).heap[w.heap.size]? = some x := World.alloc_heap_new w x
 have r1 := r.allocW x
 refine ⟨fun k => if k = b then some (al.im w.heap.size) else φ k, le, if_pos rfl, fun k hk => if_neg hk, ?_⟩
 refine ⟨fun k j o hj ho => ?_, fun k j o hj ho hr => ?_, fun k k' j j' o o' hj hj' ho ho' hr hcc => ?_, fun k j hj => ?_, r.nx, r1.below⟩
 · by_cases e : k = b
   · subst e
     rw [if_pos rfl] at hj; cases hj
     rw [hg] at ho; cases ho
     exact AlR.or hk ha le hnew
   · rw [if_neg e] at hj
     exact (r1.dom k j o hj ho).mono le
 · by_cases e : k = b
   · subst e
     rw [if_pos rfl] at hj; cases hj
     rw [hc]; exact r.below.size
   · rw [if_neg e] at hj
     exact r1.low k j o hj ho hr
 · by_cases e : k = b
   · by_cases e' : k' = b
     · rw [e, e']
     · subst e
       rw [if_pos rfl] at hj; cases hj
       rw [if_neg e'] at hj'
       have := (r.lt k' j' hj').1
       omega
   · by_cases e' : k' = b
     · subst e'
       rw [if_pos rfl] at hj'; cases hj'
       rw [if_neg e] at hj
       have := (r.lt k j hj).1
       omega
     · rw [if_neg e] at hj
       rw [if_neg e'] at hj'
       exact r.inj k k' j j' o o' hj hj' ho ho' hr hcc
 · by_cases e : k = b
   · subst e
     rw [if_pos rfl] at hj; cases hj
     rw [hc]
     exact ⟨by simp, hlt⟩
   · rw [if_neg e] at hj
     exact r1.lt k j hj
theorem Core.frame {d0 : List Deferred} {done : Nat → Prop} {sn : List Nat} {b : Nat → Nat} {lst : Nat → Prop} {a : Act} (hn : T.Ok (n)) (c : Core w0 P n ops φ0 h0 tb d0 done sn t1 h1 φ b lst a w) :
   ∃ tS, FR φ n tS a.tmps ∧ (∀ s j, s < n → lst j → dstAt ops j = some s → vt tS s = vt t1 s) ∧ (∀ s, s < n → (∀ j, lst j → dstAt ops j ≠ some s) → vt tS s = vt tb s) := by
 classical
 let g : Nat → Value := fun s => if ∃ j, lst j ∧ dstAt ops j = some s then vt t1 s else vt tb s
 have hget : ∀ s, s < n → vt (T.fill ((List.range n).map g) 0 .e) s = g s := by
   intro s hs
   unfold vt
   rw [T.get_fill, if_pos (by simp; exact hs)]
   simp [hs]
 refine ⟨T.fill ((List.range n).map g) 0 .e, ⟨c.size, hn, fun s u hu => ?_⟩, fun s j hs hl hd => ?_, fun s hs hno => ?_⟩
 · have hs : s < n := by
     have := (Array.getElem?_eq_some_iff.1 hu).1
     rw [c.size] at this; exact this
   have := hget s hs
   unfold vt at this
   rw [this]
   show VR φ (if ∃ j, lst j ∧ dstAt ops j = some s then vt t1 s else vt tb s) u
   by_cases e : ∃ j, lst j ∧ dstAt ops j = some s
   · rw [if_pos e]
     obtain ⟨j, h1, h2⟩ := e
     exact c.fw s u j hu h1 h2
   · rw [if_neg e]
     exact c.fb s u hu (fun j hl hd => e ⟨j, hl, hd⟩)
 · rw [hget s hs]
   exact if_pos ⟨j, hl, hd⟩
 · rw [hget s hs]
   exact if_neg (fun ⟨j, h1, h2⟩ => hno j h1 h2)
theorem Core.put {d0 : List Deferred} {done : Nat → Prop} {sn : List Nat} {b : Nat → Nat} {lst : Nat → Prop} {a : Act} (c : Core w0 P n ops φ0 h0 tb d0 done sn t1 h1 φ b lst a w) (le : Le φ φ')
  {i : Nat} {o : Oper} (ho : ops[i]? = some o) {v v' : Value} (hv : VR φ' v v') {t2 : T Value} (h2 : ∀ s, o.dst ≠ some s → vt t2 s = vt t1 s) (h3 : ∀ d, o.dst = some d → vt t2 d = v) :
  (a.put o.dst v').tmps.size = n ∧ (∀ s u j, (a.put o.dst v').tmps[s]? = some u → (lst j ∨ j = i) → dstAt ops j = some s → VR φ' (vt t2 s) u) ∧
    (∀ s u, (a.put o.dst v').tmps[s]? = some u → (∀ j, (lst j ∨ j = i) → dstAt ops j ≠ some s) → VR φ' (vt tb s) u) ∧ (a.put o.dst v').defers = d0 := by
 have hdi := dstAt_eq ho
 cases hd : o.dst with
 | none =>
  refine ⟨c.size, fun s u j hu hl hds => ?_, fun s u hu hno => (c.fb s u hu (fun j hl => hno j (.inl hl))).mono le, c.df⟩
  rcases hl with hl | hl
  · rw [h2 s (by rw [hd]; simp)]; exact (c.fw s u j hu hl hds).mono le
  · subst hl; rw [hdi, hd] at hds; cases hds
 | some d =>
  have hsz : (a.tmps.setIfInBounds d v').size = n := by simp [c.size]
  refine ⟨hsz, fun s u j hu hl hds => ?_, fun s u hu hno => ?_, c.df⟩
  · have hu' : (a.tmps.setIfInBounds d v')[s]? = some u := hu
    rw [Array.getElem?_setIfInBounds] at hu'
    by_cases e : d = s
    · subst e
      rw [if_pos rfl] at hu'
      split at hu'
      · cases hu'; rw [h3 d hd]; exact hv
      · cases hu'
    · rw [if_neg e] at hu'
      have hji : j ≠ i := fun e2 => by subst e2; rw [hdi, hd] at hds; cases hds; exact e rfl
      rw [h2 s (by rw [hd]; intro x; cases x; exact e rfl)]
      exact (c.fw s u j hu' (hl.resolve_right hji) hds).mono le
  · have hu' : (a.tmps.setIfInBounds d v')[s]? = some u := hu
    rw [Array.getElem?_setIfInBounds] at hu'
    by_cases e : d = s
    · subst e; exact (hno i (.inr rfl) (by rw [hdi, hd])).elim
    · rw [if_neg e] at hu'
      exact (c.fb s u hu' (fun j hl => hno j (.inl hl))).mono le
end
end Go.X
namespace Go.X
noncomputable section
open Go Go.RowKit
variable {w0 w w' : World} {φ φ' φ0 : Phi} {h h' h0 h1 h2 : AH} {P : Program} {n : Nat} {t t' tb t1 t2 : T Value} {ops : Array Oper} {ls ms : List Nat}
theorem opK_defer {o : Op} (hk : opK o ≠ 0) : ∀ c, o ≠ .defer c := fun c e => by subst e; simp [opK] at hk
abbrev Ct := Nat → List Nat → T Value → AH → Prop
def Inv (w0 : World) (P : Program) (n : Nat) (ops : Array Oper) (ls : List Nat) (φ0 : Phi) (h0 : AH) (tb : T Value) (d0 : List Deferred) (C : Ct) (lst : Nat → Prop) (a : Act) (w : World) : Prop :=
 ∃ L seen t1 h1 φ b, C L seen t1 h1 ∧
  Core w0 P n ops φ0 h0 tb d0 (fun i => ls.getD i 0 < L ∨ (isE ops i = false ∧ ls.getD i 0 = L)) (seen ++ lvN ops ls L) t1 h1 φ b lst a w ∧
  ∀ (i : Nat) (o : Oper), ops[i]? = some o → opK o.op = 2 → (ls.getD i 0 < L ∨ (isE ops i = false ∧ ls.getD i 0 = L)) → ¬ lst i → aWant n t1 ops o = true → ∃ v, aVal P n t1 h1 o.op = some v ∧ ∀ d, o.dst = some d → vt t1 d = v
def Enter (P : Program) (n : Nat) (ops : Array Oper) (ls : List Nat) (C : Ct) : Ct := fun L seen t h => ∃ t1 h1, aNs P n ops (lvN ops ls L) t h = some (t1, h1) ∧ recheck P n ops (seen ++ lvN ops ls L) t1 h1 = true ∧ C L seen t1 h1
def CStep (P : Program) (call : Call1) (n : Nat) (ops : Array Oper) (ls ms : List Nat) (C C' : Ct) (i : Nat) (o : Oper) : Prop := ∀ L seen t1 h1, ls.getD i 0 = L → C L seen t1 h1 →
 (aWant n t1 ops o = true → ∃ l0, aStep P call n t1 h1 o.op = some l0 ∧ ∀ v h2, (v, h2) ∈ l0 → ∃ t2, aPut n t1 o.dst v = some t2 ∧ Enter P n ops ls C' (L + 1) ((seen ++ lvN ops ls L).filter fun j => !(ms.getD i 0).testBit j) t2 h2) ∧
 (aWant n t1 ops o = false → ∃ t2, aPut n t1 o.dst undef = some t2 ∧ Enter P n ops ls C' (L + 1) ((seen ++ lvN ops ls L).filter fun j => !(ms.getD i 0).testBit j) t2 h1)
theorem enter_inv (sp : PlanSpec n ops ls ms) (hn : T.Ok (n)) {C : Ct} {d0 : List Deferred} {L : Nat} {seen : List Nat} {b : Nat → Nat} {lst : Nat → Prop} {a : Act}
  (c : Core w0 P n ops φ0 h0 tb d0 (fun i => ls.getD i 0 < L) seen t h φ b lst a w) (hs : Enter P n ops ls C L seen t h) : Inv w0 P n ops ls φ0 h0 tb d0 C lst a w := by
 obtain ⟨t1, h1, hns, hr, hC⟩ := hs
 obtain ⟨b', c1, c2⟩ := enter_ok sp hn c hns hr
 exact ⟨L, seen, t1, h1, φ, b', hC, c1, c2⟩
def StepsOk (w0 : World) (P : Program) (call : Call1) (n : Nat) (ops : Array Oper) (φ0 : Phi) (h0 : AH) (tb : T Value) (d0 : List Deferred) (q : Option Nat) (m : Nat) (Q : Exit → Act → World → Prop) : Prop :=
 ∀ ⦃i : Nat⦄ ⦃o : Oper⦄, ops[i]? = some o → ∀ ⦃t : T Value⦄ ⦃h : AH⦄ ⦃φ : Phi⦄ ⦃a : Act⦄ ⦃w : World⦄ ⦃l : List (Value × AH)⦄ ⦃K : Act → World → Prop⦄, aStep P call n t h o.op = some l → Nx φ0 φ h0 h → R w0 φ h w → FR φ n t a.tmps → a.defers = d0 →
  (∀ s u, a.tmps[s]? = some u → (∀ j, dstAt ops j ≠ some s) → VR φ (vt tb s) u) →
  (∀ v h2 v' w' φ', (v, h2) ∈ l → Nx φ φ' h h2 → R w0 φ' h2 w' → VR φ' v v' → K (a.put o.dst v') w') → o.wpIn (FW q) m P a w K Q
theorem step_inv (_hN : NoCount P) {call : Call1} {d0 : List Deferred} {C C' : Ct} {lst : Nat → Prop} {a : Act} {q : Option Nat} {m : Nat} {Q : Exit → Act → World → Prop} {K : Act → World → Prop} (hc : StepsOk w0 P call n ops φ0 h0 tb d0 q m Q) (sp : PlanSpec n ops ls ms) (hn : T.Ok (n))
  (hcl : ∀ (i : Nat) (o : Oper), lst i → ops[i]? = some o → ∀ j, j ∈ edgesOf o → lst j) (inv : Inv w0 P n ops ls φ0 h0 tb d0 C lst a w) {i : Nat} {o : Oper} (ho : ops[i]? = some o) (hun : ¬ lst i) (hrd : ∀ j, j ∈ edgesOf o → lst j)
  (hE' : isE ops i = true → CStep P call n ops ls ms C C' i o) (hKN : isE ops i = false → ∀ a' w', Inv w0 P n ops ls φ0 h0 tb d0 C (fun j => lst j ∨ j = i) a' w' → K a' w') (hKE : isE ops i = true → ∀ a' w', Inv w0 P n ops ls φ0 h0 tb d0 C' (fun j => lst j ∨ j = i) a' w' → K a' w') : wpOpIn (FW q) m P ops Q i K a w := by
 obtain ⟨L, seen, t1, h1, φ, b, hcont, c, k2⟩ := inv
 have hi : i < ops.size := (Array.getElem?_eq_some_iff.1 ho).1
 have hdi := dstAt_eq ho
 -- its level
 have hle : ls.getD i 0 ≤ L := by
  rcases sp.att i o ho with h5 | ⟨j, hj, h5⟩
  · omega
  · have hlj := hrd j hj
    have hjl : j < ops.size := Nat.lt_trans (sp.edge i o j ho hj).1 hi
    have hd := c.ld j hjl hlj
    unfold step1 at h5
    cases hE : isE ops j with
    | true =>
      rw [hE] at h5
      simp only [if_true] at h5
      rcases hd with hd | hd
      · omega
      · rw [hE] at hd; cases hd.1
    | false =>
      rw [hE] at h5
      simp only [Bool.false_eq_true, if_false, Nat.add_zero] at h5
      rcases hd with hd | hd <;> omega
 obtain ⟨tS, fS, wS, uS⟩ := c.frame hn
 -- a slot that no edge of its own writes is as it was
 have noedge : ∀ s, s ∈ slots o.op → s < n → (∀ j, j ∈ edgesOf o → dstAt ops j ≠ some s) → vt tS s = vt tb s := by
  intro s hs hsn hno
  refine uS s hsn (fun j hl hd => ?_)
  rcases sp.slot i o s j ho hs hd with h5 | h5
  · exact hno j h5 hd
  · have hjo : ops[j]? = some (ops[j]'(dstAt_lt hd)) := Array.getElem?_eq_getElem (dstAt_lt hd)
    have h6 := h5.1
    unfold edgeTo at h6
    rw [hjo] at h6
    exact hun (hcl j _ hl hjo i (by simpa using h6))
 have gS : ∀ s, gslot ops o = some s → s < n → vt tS s = vt t1 s := by
  intro s hg hsn
  unfold gslot at hg
  cases hq : o.guard with
  | none => rw [hq] at hg; cases hg
  | some p =>
    obtain ⟨g, y⟩ := p
    rw [hq] at hg
    exact wS s g hsn (hrd g (sp.guard i o g y ho hq)) hg
 unfold wpOpIn
 rw [ho]
 dsimp only
 rw [want_ok fS]
 cases hE : isE ops i with
 | false =>
  have hdone : ls.getD i 0 < L ∨ (isE ops i = false ∧ ls.getD i 0 = L) := by
    rcases Nat.lt_or_ge (ls.getD i 0) L with h5 | h5
    · exact .inl h5
    · exact .inr ⟨hE, by omega⟩
  have hk0 : opK o.op ≠ 0 := by rw [isE_of ho] at hE; simpa using hE
  obtain ⟨tq, hh, q1, q2, q3, q4⟩ := c.nn i o ho hE hdone hun
  have aS : ∀ s, s ∈ slots o.op → s < n → vt tq s = vt tS s := by
    intro s hs hsn
    by_cases e : ∃ j, j ∈ edgesOf o ∧ dstAt ops j = some s
    · obtain ⟨j, hj, hd⟩ := e
      rw [(q1 s hs).1 j hj hd, wS s j hsn (hrd j hj) hd]
    · have hno : ∀ j, j ∈ edgesOf o → dstAt ops j ≠ some s := fun j hj hd => e ⟨j, hj, hd⟩
      rw [(q1 s hs).2 hno, noedge s hs hsn hno]
  have gq : ∀ s, gslot ops o = some s → s < n → vt tq s = vt tS s := fun s hg hsn => by rw [q2 s hg, gS s hg hsn]
  have hwq : aWant n tq ops o = aWant n tS ops o := aWant_congr gq
  have hw1 : aWant n t1 ops o = aWant n tS ops o := aWant_congr (fun s hg hsn => (gS s hg hsn).symm)
  -- what is known behind
  have fin : ∀ {v v' : Value} {w' : World} {φ' : Phi}, Le φ φ' → Nx φ0 φ' h0 h1 → R w0 φ' h1 w' → VR φ' v v' → (∀ d, o.dst = some d → vt t1 d = v) →
      (∀ (j : Nat) (o' : Oper), ops[j]? = some o' → j ≠ i → isE ops j = false → (ls.getD j 0 < L ∨ (isE ops j = false ∧ ls.getD j 0 = L)) → b j % 2 = 0 → b j / 2 < h1.next → φ (b j / 2) = none → φ' (b j / 2) = none) → K (a.put o.dst v') w' := by
    intro v v' w' φ' le nx r hv hd hkeep
    obtain ⟨p1, p2, p3, p4⟩ := c.put le ho hv (fun s _ => rfl) hd
    refine hKN hE _ _ ⟨L, seen, t1, h1, φ', b, hcont, ⟨fun j hj hl => ?_, fun j hj hEj hdj => .inl (c.ed j hj hEj hdj), r, nx, p1, p2, p3, p4, c.tt, fun j o' ho' hEj hdj hl => ?_, c.bb, c.bl, fun j o' ho' hkj hdj hl => c.sn j o' ho' hkj hdj (fun x => hl (.inl x))⟩,
      fun j o' ho' hkj hdj hl hw => k2 j o' ho' hkj hdj (fun x => hl (.inl x)) hw⟩
    · rcases hl with hl | hl
      · exact c.ld j hj hl
      · subst hl; exact hdone
    · obtain ⟨tq', hh', e1, e2, e3, e4⟩ := c.nn j o' ho' hEj hdj (fun x => hl (.inl x))
      refine ⟨tq', hh', e1, e2, e3, fun hk3 hw => ?_⟩
      have hb : b j / 2 < h1.next := by
        rcases e3 with ⟨_, ⟨hk, _⟩ | ⟨_, al, mk, _, hb, _⟩⟩ | ⟨hw', _⟩
        · omega
        · exact hb
        · rw [hw] at hw'; cases hw'
      exact ⟨hkeep j o' ho' (fun e => hl (.inr e)) hEj hdj (e4 hk3 hw).2 hb (e4 hk3 hw).1, (e4 hk3 hw).2⟩
  rcases q3 with ⟨hw, ⟨hk12, v, hv, hd⟩ | ⟨hk3, al, mk, hal, hb1, hb2, hd⟩⟩ | ⟨hw, hd⟩
  · rw [if_pos (by rw [← hwq]; exact hw)]
    have hvS : ∃ v, aVal P n tS h1 o.op = some v ∧ ∀ d, o.dst = some d → vt t1 d = v := by
      rcases hk12 with hk | hk
      · exact ⟨v, by rw [← aVal_congr aS, ← hv]; exact aVal_pure hk, hd⟩
      · obtain ⟨v2, hv2, hd2⟩ := k2 i o ho hk hdone hun (by rw [hw1, ← hwq]; exact hw)
        have a1S : ∀ s, s ∈ slots o.op → s < n → vt t1 s = vt tS s := by
          intro s hs hsn
          by_cases e : ∃ j, j ∈ edgesOf o ∧ dstAt ops j = some s
          · obtain ⟨j, hj, hdj⟩ := e
            exact (wS s j hsn (hrd j hj) hdj).symm
          · have hno : ∀ j, j ∈ edgesOf o → dstAt ops j ≠ some s := fun j hj hdj => e ⟨j, hj, hdj⟩
            rw [noedge s hs hsn hno]
            refine c.tt s (fun j hdj _ => ?_)
            rcases sp.slot i o s j ho hs hdj with h5 | h5
            · exact hno j h5 hdj
            · exact h5.2 hk
        exact ⟨v2, by rw [← aVal_congr a1S]; exact hv2, hd2⟩
    obtain ⟨v, hvS⟩ := hvS
    obtain ⟨nx, w', φ', e1, e2, e3, e4⟩ := simN c.r fS hvS.1
    refine ⟨fun f _ => FW_fn q f, ?_⟩
    rw [FW_round, Oper.semAt_eq _ _ _ (opK_defer hk0), e1]
    cases e4 with
    | val hvv =>
      refine fin e2.le (c.nx.trans e2) e3 hvv hvS.2 (fun j o' _ _ _ _ _ hb hn' => (e2.ghost _ hn' hb).1)
  · rw [if_pos (by rw [← hwq]; exact hw)]
    have halS : aAl P n tS o.op = some (al, mk) := by rw [← aAl_congr aS]; exact hal
    obtain ⟨hok, x, hx, hrun⟩ := al_run fS halS
    obtain ⟨hnone, hev⟩ := q4 hk3 hw
    obtain ⟨φ', le, e2, e3, e4⟩ := c.r.bindGhost hnone hb1 hb2 hok hx
    refine ⟨fun f _ => FW_fn q f, ?_⟩
    rw [FW_round, Oper.semAt_eq _ _ _ (opK_defer hk0), hrun]
    have nx' : Nx φ0 φ' h0 h1 := ⟨c.nx.le.trans le, c.nx.next, fun k hk hlt => by
      have := c.nx.ghost k hk hlt
      refine ⟨?_, this.2⟩
      rw [e3 k (fun e => ?_)]
      · exact this.1
      · subst e
        rcases c.bl i hi hE hdone with h5 | h5 <;> omega⟩
    exact fin le nx' e4 (Mk.rel hok e2) hd (fun j o' ho' hji hEj hdj hpj hb hn' => by
      rw [e3 (b j / 2) (by have := c.bb j i (Array.getElem?_eq_some_iff.1 ho').1 hi hEj hE hdj hdone hji; omega)]; exact hn')
  · rw [if_neg (by rw [← hwq, hw]; simp)]
    refine ⟨fun f _ => FW_fn q f, fin (Le.refl φ) c.nx c.r .undef hd (fun j o' _ _ _ _ _ _ hn' => hn')⟩
 | true =>
  have hL : ls.getD i 0 = L := by
    rcases Nat.lt_or_ge (ls.getD i 0) L with h5 | h5
    · exact (hun (c.ed i hi hE (.inl h5))).elim
    · omega
  have uniq : ∀ j, j < ops.size → isE ops j = true → ls.getD j 0 = L → j = i := by
    intro j hj hEj hLj
    rcases Nat.lt_trichotomy j i with h5 | h5 | h5
    · have := sp.tot i j hi hE hEj h5; omega
    · exact h5
    · have := sp.tot j i hj hEj hE h5; omega
  obtain ⟨hcw, hcn⟩ := hE' hE L seen t1 h1 hL hcont
  -- what an edge leads from
  have up : ∀ {j : Nat} {o' : Oper}, ops[j]? = some o' → i ∈ edgesOf o' → L < ls.getD j 0 := by
    intro j o' ho' hj
    have := (sp.edge j o' i ho' hj).2
    unfold step1 at this
    rw [hE] at this
    simp only [if_true] at this
    omega
  have aS : ∀ s, s ∈ slots o.op → s < n → vt t1 s = vt tS s := by
    intro s hs hsn
    by_cases e : ∃ j, j ∈ edgesOf o ∧ dstAt ops j = some s
    · obtain ⟨j, hj, hd⟩ := e
      exact (wS s j hsn (hrd j hj) hd).symm
    · have hno : ∀ j, j ∈ edgesOf o → dstAt ops j ≠ some s := fun j hj hd => e ⟨j, hj, hd⟩
      rw [noedge s hs hsn hno]
      refine c.tt s (fun j hdj hdone => ?_)
      rcases sp.slot i o s j ho hs hdj with h5 | h5
      · exact hno j h5 hdj
      · have hjo : ops[j]? = some (ops[j]'(dstAt_lt hdj)) := Array.getElem?_eq_getElem (dstAt_lt hdj)
        have h6 := h5.1
        unfold edgeTo at h6
        rw [hjo] at h6
        have := up hjo (by simpa using h6)
        rcases hdone with h7 | h7 <;> omega
  have hw1 : aWant n t1 ops o = aWant n tS ops o := aWant_congr (fun s hg hsn => (gS s hg hsn).symm)
  have hcl' : ∀ (j : Nat) (o' : Oper), (lst j ∨ j = i) → ops[j]? = some o' → ∀ k, k ∈ edgesOf o' → (lst k ∨ k = i) := by
    intro j o' hl ho' k hk
    rcases hl with hl | hl
    · exact .inl (hcl j o' hl ho' k hk)
    · subst hl
      rw [ho] at ho'; cases ho'
      exact .inl (hrd k hk)
  have fin : ∀ {v v' : Value} {w' : World} {φ' : Phi} {h2 : AH} {t2 : T Value}, Nx φ φ' h1 h2 → R w0 φ' h2 w' → VR φ' v v' → aPut n t1 o.dst v = some t2 →
      Enter P n ops ls C' (L + 1) ((seen ++ lvN ops ls L).filter fun j => !(ms.getD i 0).testBit j) t2 h2 → K (a.put o.dst v') w' := by
    intro v v' w' φ' h2 t2 nx r hv hput hlv
    have hvt := vt_put hput hn
    obtain ⟨p1, p2, p3, p4⟩ := c.put nx.le ho hv (t2 := t2) (fun s hs => by rw [hvt, if_neg hs]) (fun d hd => by rw [hvt, if_pos hd])
    have other : ∀ s j, dstAt ops j = some s → j ≠ i → vt t2 s = vt t1 s := fun s j hd hji => by
      rw [hvt, if_neg (fun e => hji ((sp.dst i s (by rw [hdi]; exact e)).2 j hd))]
    have lev_of : ∀ j, isE ops j = false → ls.getD j 0 < L + 1 → (ls.getD j 0 < L ∨ (isE ops j = false ∧ ls.getD j 0 = L)) := fun j hEj hj => by
      rcases Nat.lt_or_ge (ls.getD j 0) L with h5 | h5
      · exact .inl h5
      · exact .inr ⟨hEj, by omega⟩
    refine hKE hE _ _ (enter_inv sp hn (b := b) ⟨fun j hj hl => ?_, fun j hj hEj hdj => ?_, r, c.nx.trans nx, p1, p2, p3, p4, fun s hs => ?_, fun j o' ho' hEj hdj hl => ?_, fun j j2 hj hj2 hEj hEj2 hd hd2 hne => c.bb j j2 hj hj2 hEj hEj2 (lev_of j hEj hd) (lev_of j2 hEj2 hd2) hne, fun j hj hEj hd => ?_, fun j o' ho' hkj hdj hl => ?_⟩ hlv)
    · rcases hl with hl | hl
      · rcases c.ld j hj hl with h5 | h5 <;> omega
      · subst hl; omega
    · by_cases e : j = i
      · exact .inr e
      · refine .inl (c.ed j hj hEj (.inl ?_))
        rcases Nat.lt_or_ge (ls.getD j 0) L with h5 | h5
        · exact h5
        · exact (e (uniq j hj hEj (by omega))).elim
    · rw [hvt, if_neg (fun e => hs i (by rw [hdi]; exact e) (by omega))]
      exact c.tt s (fun j hd hdone => hs j hd (by rcases hdone with h5 | h5 <;> omega))
    · have hji : j ≠ i := fun e => hl (.inr e)
      have hlv' := lev_of j hEj hdj
      obtain ⟨tq, hh, e1, e2, e3, e4⟩ := c.nn j o' ho' hEj hlv' (fun x => hl (.inl x))
      have notedge : i ∉ edgesOf o' := fun hin => by have := up ho' hin; rcases hlv' with h5 | h5 <;> omega
      have hdst : ∀ d, o'.dst = some d → vt t2 d = vt t1 d := fun d hd => other d j (by rw [dstAt_eq ho']; exact hd) hji
      refine ⟨tq, hh, fun s hs => ⟨fun k hk hd => ?_, (e1 s hs).2⟩, fun s hg => ?_, ?_, fun hk3 hw => ?_⟩
      · rw [(e1 s hs).1 k hk hd, other s k hd (fun e => notedge (e ▸ hk))]
      · rw [e2 s hg]
        unfold gslot at hg
        cases hq : o'.guard with
        | none => rw [hq] at hg; cases hg
        | some p =>
          obtain ⟨g, y⟩ := p
          rw [hq] at hg
          exact (other s g hg (fun e => notedge (e ▸ sp.guard j o' g y ho' hq))).symm
      · rcases e3 with ⟨hw, ⟨hk, v3, hv3, hd⟩ | ⟨hk, al, mk, hal, hb1, hb2, hd⟩⟩ | ⟨hw, hd⟩
        · exact .inl ⟨hw, .inl ⟨hk, v3, hv3, fun d hd' => by rw [hdst d hd', hd d hd']⟩⟩
        · have hg := nx.ghost (b j / 2) (e4 hk hw).1 hb1
          exact .inl ⟨hw, .inr ⟨hk, al, mk, hal, Nat.lt_of_lt_of_le hb1 nx.next, by rw [hg.2]; exact hb2, fun d hd' => by rw [hdst d hd', hd d hd']⟩⟩
        · exact .inr ⟨hw, fun d hd' => by rw [hdst d hd', hd d hd']⟩
      · have hb : b j / 2 < h1.next := by
          rcases e3 with ⟨_, ⟨hk, _⟩ | ⟨_, al, mk, _, hb, _⟩⟩ | ⟨hw', _⟩
          · omega
          · exact hb
          · rw [hw] at hw'; cases hw'
        exact ⟨(nx.ghost (b j / 2) (e4 hk3 hw).1 hb).1, (e4 hk3 hw).2⟩
    · rcases c.bl j hj hEj (lev_of j hEj hd) with h5 | h5
      · exact .inl ⟨h5.1, Nat.lt_of_lt_of_le h5.2.1 nx.next, h5.2.2⟩
      · exact .inr h5
    · have hEj : isE ops j = false := by rw [isE_of ho', hkj]; rfl
      refine List.mem_filter.2 ⟨c.sn j o' ho' hkj (lev_of j hEj hdj) (fun x => hl (.inl x)), ?_⟩
      cases hbit : (ms.getD i 0).testBit j with
      | false => rfl
      | true => exact (hl (mask_listed sp hcl' i j (.inr rfl) hi hbit)).elim
  by_cases hw : aWant n t1 ops o = true
  · rw [if_pos (by rw [← hw1]; exact hw)]
    obtain ⟨l0, hl0, hall⟩ := hcw hw
    refine hc ho (by rw [← aStep_congr aS]; exact hl0) c.nx c.r fS c.df (fun s u hu hno => c.fb s u hu (fun j _ => hno j)) ?_
    intro v h2 v' w' φ' hm nx r hv
    obtain ⟨t2, hput, hen⟩ := hall _ _ hm
    exact fin nx r hv hput hen
  · have hw' : aWant n t1 ops o = false := by simpa using hw
    rw [if_neg (by rw [← hw1]; exact hw)]
    obtain ⟨t2, hput, hen⟩ := hcn hw'
    exact ⟨fun f _ => FW_fn q f, fin (.refl φ h1) c.r .undef hput hen⟩
end
end Go.X
namespace Go.X
noncomputable section
open Go Go.RowKit
variable {w0 w w' : World} {φ φ' φ0 : Phi} {h h' h0 h1 h2 : AH} {P : Program} {n : Nat} {t t' tb t1 t2 : T Value} {ops : Array Oper} {ls ms : List Nat}
def Cl (P : Program) (call : Call1) (n : Nat) (ops : Array Oper) (ls ms : List Nat) (l : List (T Value × AH)) : Ct := fun L seen t1 h1 => ∃ k lo, aCont P call n ops ls ms (aLv P call n ops ls ms k) L seen t1 h1 = some lo ∧ ∀ x, x ∈ lo → x ∈ l
theorem enter_cl {call : Call1} {l lo : List (T Value × AH)} {k L : Nat} {seen : List Nat} (hs : aLv P call n ops ls ms k L seen t h = some lo) (hsub : ∀ x, x ∈ lo → x ∈ l) : Enter P n ops ls (Cl P call n ops ls ms l) L seen t h := by
 cases k with
 | zero => simp [aLv] at hs
 | succ k =>
  simp only [aLv] at hs
  split at hs
  · cases hs
  · rename_i t1 h1 hns
    split at hs
    · rename_i hr
      exact ⟨t1, h1, hns, hr, k, lo, hs, hsub⟩
    · cases hs
theorem lvE_at (sp : PlanSpec n ops ls ms) {i : Nat} (hi : i < ops.size) (hE : isE ops i = true) {L : Nat} (hL : ls.getD i 0 = L) : lvE ops ls L = some i := by
 have uniq : ∀ j, j < ops.size → isE ops j = true → ls.getD j 0 = L → j = i := by
  intro j hj hEj hLj
  rcases Nat.lt_trichotomy j i with h5 | h5 | h5
  · have := sp.tot i j hi hE hEj h5; omega
  · exact h5
  · have := sp.tot j i hj hEj hE h5; omega
 unfold lvE
 cases hq : (List.range ops.size).find? (fun i => isE ops i && decide (ls.getD i 0 = L)) with
 | none =>
  have := List.find?_eq_none.1 hq i (List.mem_range.2 hi)
  rw [hE] at this
  simp only [Bool.true_and, decide_eq_true_eq] at this
  exact (this hL).elim
 | some e =>
  have h5 := List.find?_some hq
  have h6 := List.mem_of_find?_eq_some hq
  simp only [Bool.and_eq_true, decide_eq_true_eq] at h5
  rw [uniq e (List.mem_range.1 h6) h5.1 h5.2]
theorem cl_step (sp : PlanSpec n ops ls ms) {call : Call1} {l : List (T Value × AH)} {i : Nat} {o : Oper} (ho : ops[i]? = some o) (hE : isE ops i = true) : CStep P call n ops ls ms (Cl P call n ops ls ms l) (Cl P call n ops ls ms l) i o := by
 rintro L seen t1 h1 hL ⟨k, lo, hcont, hsub⟩
 have hfe := lvE_at sp (Array.getElem?_eq_some_iff.1 ho).1 hE hL
 unfold aCont at hcont
 rw [hfe] at hcont
 dsimp only at hcont
 rw [ho] at hcont
 dsimp only at hcont
 refine ⟨fun hw => ?_, fun hw => ?_⟩
 · rw [if_pos hw] at hcont
   obtain ⟨l0, hl0, hall⟩ := bindL_spec hcont
   refine ⟨l0, hl0, fun v h2 hm => ?_⟩
   obtain ⟨k3, hk3, hsub3⟩ := hall _ hm
   dsimp only at hk3
   split at hk3
   · rename_i t2 hput
     exact ⟨t2, hput, enter_cl hk3 (fun x hx => hsub x (hsub3 x hx))⟩
   · cases hk3
 · rw [if_neg (by rw [hw]; simp)] at hcont
   split at hcont
   · rename_i t2 hput
     exact ⟨t2, hput, enter_cl hcont hsub⟩
   · cases hcont
theorem fin_c (hn : T.Ok (n)) {C : Ct} {d0 : List Deferred} {l : List (T Value × AH)} {lst : Nat → Prop} {a : Act} (hC : ∀ L seen t1 h1, C L seen t1 h1 → lvE ops ls L = none → (t1, h1) ∈ l) (hall : ∀ j, j < ops.size → lst j) (inv : Inv w0 P n ops ls φ0 h0 tb d0 C lst a w) :
   ∃ t' h' φ', (t', h') ∈ l ∧ Nx φ0 φ' h0 h' ∧ R w0 φ' h' w ∧ FR φ' n t' a.tmps ∧ a.defers = d0 := by
 obtain ⟨L, seen, t1, h1, φ, b, hcont, c, k2⟩ := inv
 have hnone : lvE ops ls L = none := by
   unfold lvE
   rw [List.find?_eq_none]
   intro e he hh
   simp only [Bool.and_eq_true, decide_eq_true_eq] at hh
   have hlt := List.mem_range.1 he
   rcases c.ld e hlt (hall e hlt) with h5 | h5
   · omega
   · rw [hh.1] at h5; cases h5.1
 refine ⟨t1, h1, φ, hC L seen t1 h1 hcont hnone, c.nx, c.r, ⟨c.size, hn, fun s u hu => ?_⟩, c.df⟩
 by_cases e : ∃ j, dstAt ops j = some s
 · obtain ⟨j, hd⟩ := e
   exact c.fw s u j hu (hall j (dstAt_lt hd)) hd
 · have h5 := c.tt s (fun j hd => (e ⟨j, hd⟩).elim)
   unfold vt at h5
   rw [h5]
   exact c.fb s u hu (fun j _ hd => e ⟨j, hd⟩)
theorem fin_inv (hn : T.Ok (n)) {call : Call1} {d0 : List Deferred} {l : List (T Value × AH)} {lst : Nat → Prop} {a : Act} (hall : ∀ j, j < ops.size → lst j) (inv : Inv w0 P n ops ls φ0 h0 tb d0 (Cl P call n ops ls ms l) lst a w) :
  ∃ t' h' φ', (t', h') ∈ l ∧ Nx φ0 φ' h0 h' ∧ R w0 φ' h' w ∧ FR φ' n t' a.tmps ∧ a.defers = d0 := by
 refine fin_c hn (fun L seen t1 h1 hC hnone => ?_) hall inv
 obtain ⟨k, lo, hcont, hsub⟩ := hC
 unfold aCont at hcont
 rw [hnone] at hcont
 cases hcont
 exact hsub _ (List.mem_singleton.2 rfl)
end
end Go.X
namespace Go.X
noncomputable section
open Go Go.RowKit
variable {w0 w w' : World} {φ φ' φ0 : Phi} {h h' : AH} {P : Program} {n : Nat} {t t' : T Value} {ops : Array Oper}
theorem sameT_ok {α : Type} {f : α → α → Bool} (hf : ∀ x y, f x y = true → x = y) : ∀ {a b : T α}, sameT f a b = true → a = b
 | .e, .e, _ => rfl
 | .n l v r, .n l' v' r', h => by
  unfold sameT at h
  rw [Bool.and_eq_true, Bool.and_eq_true] at h
  rw [sameT_ok hf h.1, sameT_ok hf h.2.2]
  have : v = v' := by
   have h2 := h.2.1
   cases v <;> cases v' <;> simp [sameOp] at h2 ⊢
   exact hf _ _ h2
  rw [this]
 | .e, .n .., h => by simp [sameT] at h
 | .n .., .e, h => by simp [sameT] at h
theorem sameEs_ok : ∀ {l m : List (Value × Value × Nat)}, sameEs l m = true → l = m
 | [], [], _ => rfl
 | (a, b, c) :: l, (a', b', c') :: l', h => by
  simp only [sameEs, Bool.and_eq_true] at h
  rw [veq_eq _ _ _ h.1, veq_eq _ _ _ h.2.1, Nat.eq_of_beq_eq_true h.2.2.1, sameEs_ok h.2.2.2]
 | [], _ :: _, h => by simp [sameEs] at h
 | _ :: _, [], h => by simp [sameEs] at h
theorem sameNs_ok : ∀ {l m : List Nat}, sameNs l m = true → l = m
 | [], [], _ => rfl
 | a :: l, b :: m, h => by
  unfold sameNs at h
  rw [Bool.and_eq_true] at h
  rw [Nat.eq_of_beq_eq_true h.1, sameNs_ok h.2]
 | [], _ :: _, h => by cases h
 | _ :: _, [], h => by cases h
theorem sameBag_ok : ∀ {l m : List (ByteArray × Value)}, sameBag l m = true → l = m
 | [], [], _ => rfl
 | (a, v) :: l, (b, u) :: m, h => by
  unfold sameBag at h
  rw [Bool.and_eq_true, Bool.and_eq_true] at h
  rw [sameB_iff.1 h.1, veq_eq _ _ _ h.2.1, sameBag_ok h.2.2]
 | [], _ :: _, h => by simp [sameBag] at h
 | _ :: _, [], h => by simp [sameBag] at h
theorem sameO_ok (a b : AObj) (h : sameO a b = true) : a = b := by
 unfold sameO at h
 split at h
 · simp only [Bool.and_eq_true] at h
   rw [sameT_ok (veq_eq 9) h.1, Nat.eq_of_beq_eq_true h.2.1, Nat.eq_of_beq_eq_true h.2.2.1, eq_of_beq h.2.2.2]
 · simp only [Bool.and_eq_true] at h
   rw [sameEs_ok h.1, Nat.eq_of_beq_eq_true h.2.1, eq_of_beq h.2.2]
 · rfl
 · rw [sameBag_ok h]
 · simp only [Bool.and_eq_true] at h
   rw [Nat.eq_of_beq_eq_true h.1, sameT_ok (veq_eq 9) h.2.1, Nat.eq_of_beq_eq_true h.2.2.1, Nat.eq_of_beq_eq_true h.2.2.2]
 · rename_i m since seen st m' since' seen' st'
   simp only [Bool.and_eq_true] at h
   have hm : m = m' := by
    have h2 := h.1
    cases m <;> cases m' <;> simp [sameOp] at h2 ⊢
    exact h2
   rw [hm, Nat.eq_of_beq_eq_true h.2.1, sameNs_ok h.2.2.1, Nat.eq_of_beq_eq_true h.2.2.2]
 · rename_i s p s' p'
   simp only [Bool.and_eq_true] at h
   have : s = s' := by
    have h1 := sameBs_ok h.1
    cases s; cases s'
    congr 1
    exact Array.ext' h1
   rw [this, Nat.eq_of_beq_eq_true h.2]
 · cases h
theorem sameH_ok {h h' : AH} (e : sameH h h' = true) : h = h' := by
 unfold sameH at e
 rw [Bool.and_eq_true] at e
 have e1 := Nat.eq_of_beq_eq_true e.1
 have e2 := sameT_ok sameO_ok e.2
 cases h; cases h'
 simp only at e1 e2
 rw [e1, e2]
theorem sameOut_ok {p q : T Value × AH} (e : sameOut p q = true) : p = q := by
 unfold sameOut at e
 rw [Bool.and_eq_true] at e
 exact Prod.ext (sameT_ok (veq_eq 9) e.1) (sameH_ok e.2)
theorem allL_spec {α β : Type} {f : α → Option (List β)} : ∀ {l : List α} {m : List β}, allL f l = some m → ∀ a, a ∈ l → ∃ k, f a = some k ∧ ∀ b, b ∈ k → b ∈ m
 | [], m, h, a, ha => by cases ha
 | x :: l, m, h, a, ha => by
  unfold allL at h
  split at h
  · rename_i u v hu hv
    cases h
    rcases List.mem_cons.1 ha with rfl | ha
    · exact ⟨u, hu, fun b hb => List.mem_append.2 (.inl hb)⟩
    · obtain ⟨k, h1, h2⟩ := allL_spec hv a ha
      exact ⟨k, h1, fun b hb => List.mem_append.2 (.inr (h2 b hb))⟩
  · cases h
theorem filter_ne : ∀ {l : List Nat} {j : Nat}, j ∉ l → (l.filter fun x => !Nat.beq x j) = l
 | [], _, _ => rfl
 | x :: l, j, h => by
  have hx : Nat.beq x j = false := by
   cases hb : Nat.beq x j with
   | false => rfl
   | true => exact (h (by rw [Nat.eq_of_beq_eq_true hb]; simp)).elim
  rw [List.filter_cons, hx, filter_ne (fun y => h (List.mem_cons_of_mem _ y))]
  rfl
theorem filter_len : ∀ {l : List Nat} {j : Nat}, l.Nodup → j ∈ l → l.length = (l.filter fun x => !Nat.beq x j).length + 1
 | [], _, _, h => by cases h
 | x :: l, j, hn, h => by
  rw [List.nodup_cons] at hn
  rw [List.filter_cons]
  cases hb : Nat.beq x j with
  | true =>
   have := Nat.eq_of_beq_eq_true hb
   subst this
   simp [filter_ne hn.1]
  | false =>
   have hne : j ≠ x := fun e => by subst e; rw [Nat.beq_refl] at hb; cases hb
   have := filter_len hn.2 (by rcases List.mem_cons.1 h with e | e; exact (hne e).elim; exact e)
   simp only [Bool.not_false, if_true, List.length_cons]
   omega
theorem put_fb {tb : T Value} {a : Act} (fb : ∀ s u, a.tmps[s]? = some u → (∀ j, dstAt ops j ≠ some s) → VR φ (vt tb s) u) (le : Le φ φ') {i : Nat} {o : Oper} (ho : ops[i]? = some o) {v' : Value} :
  ∀ s u, (a.put o.dst v').tmps[s]? = some u → (∀ j, dstAt ops j ≠ some s) → VR φ' (vt tb s) u := by
 intro s u hu hno
 have hne := hno i
 rw [dstAt_eq ho] at hne
 refine (fb s u ?_ hno).mono le
 cases hd : o.dst with
 | none => rw [hd] at hu; exact hu
 | some d =>
  rw [hd] at hu
  have hu' : (a.tmps.setIfInBounds d v')[s]? = some u := hu
  rw [Array.getElem?_setIfInBounds, if_neg (fun e => hne (by rw [hd, e]))] at hu'
  exact hu'
theorem all_okS {call : Call1} {φ0 : Phi} {h0 : AH} {tb : T Value} {d0 : List Deferred} {q : Option Nat} {m : Nat} {Q : Exit → Act → World → Prop} (hc : StepsOk w0 P call n ops φ0 h0 tb d0 q m Q) : ∀ (k : Nat) (left : List Nat) {listed : Array Bool} {t : T Value} {h : AH} {φ : Phi} {a : Act} {w : World} {l : List (T Value × AH)},
  aAll P call n ops k left t h = some l → Nx φ0 φ h0 h → a.defers = d0 → (∀ s u, a.tmps[s]? = some u → (∀ j, dstAt ops j ≠ some s) → VR φ (vt tb s) u) → R w0 φ h w → FR φ n t a.tmps → listed.size = ops.size → left.Nodup → (∀ j, listed.getD j true = false ↔ j ∈ left) →
  (∀ t' h' φ' (a' : Act) w', (t', h') ∈ l → Nx φ φ' h h' → R w0 φ' h' w' → FR φ' n t' a'.tmps → a'.defers = a.defers → Q .normal a' w') → wpAnyIn (FW q) m P .any ops Q left.length listed a w
 | k, [], listed, t, h, φ, a, w, l, hs, n0, df, fb, hr, hf, hsz, hnd, hl, hQ => by
  have hs : some [(t, h)] = some l := by cases k <;> exact hs
  cases hs
  refine ⟨?_, hQ _ _ φ a w (List.mem_singleton.2 rfl) (.refl φ h) hr hf rfl⟩
  cases hrd : Region.ready .any ops listed with
  | nil => rfl
  | cons i r =>
    have hi : i ∈ Region.ready .any ops listed := by rw [hrd]; simp
    have := (hl i).1 (mem_ready.1 hi).1
    cases this
 | 0, i :: r, listed, t, h, φ, a, w, l, hs, n0, df, fb, hr, hf, hsz, hnd, hl, hQ => by cases hs
 | k + 1, i :: r, listed, t, h, φ, a, w, l, hs, n0, df, fb, hr, hf, hsz, hnd, hl, hQ => by
  unfold aAll at hs
  have ready : ∀ j, j ∈ (i :: r).filter (isReady ops (i :: r)) ↔ j ∈ Region.ready .any ops listed := by
    intro j
    rw [List.mem_filter, mem_ready]
    constructor
    · rintro ⟨h1, h2⟩
      refine ⟨(hl j).2 h1, ?_⟩
      unfold isReady at h2
      split at h2
      · rename_i o ho
        refine ⟨o, ho, fun e he hb => ?_⟩
        have h3 := List.all_eq_true.1 h2 e.on (by unfold edgesOf; exact List.mem_map.2 ⟨e, List.mem_filter.2 ⟨by simpa using he, hb⟩, rfl⟩)
        rw [Bool.and_eq_true] at h3
        have h4 : ¬ e.on ∈ i :: r := by simpa using h3.2
        have h5 : e.on < listed.size := by rw [hsz]; exact Nat.le_of_ble_eq_true h3.1
        have h6 : ¬ listed.getD e.on true = false := fun x => h4 ((hl _).1 x)
        rw [Array.getD_eq_getD_getElem?, Array.getElem?_eq_getElem h5] at h6 ⊢
        simpa using h6
      · cases h2
    · rintro ⟨h1, o, ho, h2⟩
      refine ⟨(hl j).1 h1, ?_⟩
      unfold isReady
      rw [ho]
      refine List.all_eq_true.2 (fun x hx => ?_)
      rw [Bool.and_eq_true]
      unfold edgesOf at hx
      obtain ⟨e, he, rfl⟩ := List.mem_map.1 hx
      obtain ⟨h5, h6⟩ := List.mem_filter.1 he
      have h7 := h2 e (by simpa using h5) h6
      have h8 : ¬ e.on ∈ i :: r := fun hm => by
        have := (hl e.on).2 hm
        rw [Array.getD_eq_getD_getElem?] at this h7
        cases hg : listed[e.on]? with
        | none => rw [hg] at this; simp at this
        | some b => rw [hg] at this h7; simp at this h7; rw [this] at h7; cases h7
      have h9 : e.on < ops.size := by
        rw [← hsz]
        refine Nat.lt_of_not_le (fun hle => ?_)
        rw [Array.getD_eq_getD_getElem?, Array.getElem?_eq_none hle] at h7
        cases h7
      exact ⟨Nat.ble_eq_true_of_le h9, by simpa using h8⟩
  split at hs
  · cases hs
  · rename_i rd hne
    refine ⟨fun he => ?_, fun j hj => ?_⟩
    · exfalso
      apply hne
      cases hq : (i :: r).filter (isReady ops (i :: r)) with
      | nil => rfl
      | cons x y =>
        have := (ready x).1 (by rw [hq]; simp)
        rw [he] at this; cases this
    · obtain ⟨kk, hk, hsub⟩ := allL_spec hs j ((ready j).2 hj)
      obtain ⟨hun, o, ho, _⟩ := mem_ready.1 hj
      have hjl : j ∈ i :: r := (hl j).1 hun
      have hlen : (i :: r).length = ((i :: r).filter fun x => !Nat.beq x j).length + 1 := filter_len hnd hjl
      have hjs : j < listed.size := by rw [hsz]; exact (Array.getElem?_eq_some_iff.1 ho).1
      have next : ∀ {t' : T Value} {h2 : AH} {φ2 : Phi} {a2 : Act} {w2 : World} {l2 : List (T Value × AH)}, aAll P call n ops k ((i :: r).filter fun x => !Nat.beq x j) t' h2 = some l2 → (∀ x, x ∈ l2 → x ∈ l) → Nx φ φ2 h h2 → (∀ s u, a2.tmps[s]? = some u → (∀ j, dstAt ops j ≠ some s) → VR φ2 (vt tb s) u) → R w0 φ2 h2 w2 → FR φ2 n t' a2.tmps → a2.defers = a.defers →
          wpAnyIn (FW q) m P .any ops Q (r.length) (listed.setIfInBounds j true) a2 w2 := by
        intro t' h2 φ2 a2 w2 l2 e1 e2 nx2 fb2 r2 f2 d2
        have := all_okS hc k _ (listed := listed.setIfInBounds j true) e1 (n0.trans nx2) (d2.trans df) fb2 r2 f2 (by simp [hsz]) (hnd.filter _) ?_ (fun t3 h3 φ3 a3 w3 hm nx3 r3 f3 d3 => hQ t3 h3 φ3 a3 w3 (e2 _ hm) (nx2.trans nx3) r3 f3 (d3.trans d2))
        · have e3 : ((i :: r).filter fun x => !Nat.beq x j).length = r.length := by simp only [List.length_cons] at hlen; omega
          rw [e3] at this
          exact this
        · intro x
          rw [List.mem_filter]
          by_cases e : j = x
          · subst e
            rw [Array.getD_eq_getD_getElem?, Array.getElem?_setIfInBounds_self_of_lt hjs]
            simp
          · rw [getD_set_ne true e]
            have : Nat.beq x j = false := by
             cases hb : Nat.beq x j with
             | false => rfl
             | true => exact (e (Nat.eq_of_beq_eq_true hb).symm).elim
            rw [this]
            simp only [Bool.not_false, and_true]
            exact hl x
      show wpOpIn (FW q) m P ops Q j (wpAnyIn (FW q) m P .any ops Q r.length (listed.setIfInBounds j true)) a w
      unfold wpOpIn
      rw [ho] at hk ⊢
      dsimp only at hk ⊢
      rw [want_ok hf]
      cases hw : aWant n t ops o with
      | true =>
        rw [hw] at hk
        dsimp only at hk
        rw [if_pos rfl]
        obtain ⟨l0, hl0, hall⟩ := bindL_spec hk
        refine hc ho hl0 n0 hr hf df fb ?_
        intro v h2 v' w' φ' hm nx2 r2 hv
        obtain ⟨k3, hk3, hsub3⟩ := hall _ hm
        dsimp only at hk3
        split at hk3
        · rename_i t2 hput
          obtain ⟨f2, d2⟩ := put_ok (hf.mono nx2.le) hput hv
          exact next hk3 (fun x hx => hsub x (hsub3 x hx)) nx2 (put_fb fb nx2.le ho) r2 f2 d2
        · cases hk3
      | false =>
        rw [hw] at hk
        dsimp only at hk
        rw [if_neg (by simp)]
        split at hk
        · rename_i t2 hput
          obtain ⟨f2, d2⟩ := put_ok hf hput .undef
          exact ⟨fun f _ => FW_fn q f, next hk hsub (.refl φ h) (put_fb fb (Le.refl φ) ho) hr f2 d2⟩
        · cases hk
end
end Go.X
namespace Go.X
noncomputable section
open Go Go.RowKit
variable {w0 w w' : World} {φ φ' φ0 : Phi} {h h' : AH} {P : Program} {n : Nat} {t t' : T Value} {ops : Array Oper}
theorem addEdge_get (i : Nat) : ∀ (j : Nat) (l : List Oper) (k : Nat), (addEdge i j l)[k]? = if k = j then (l[k]?).map (fun o => { o with after := ⟨o.after.toList ++ [⟨i, .data⟩]⟩ }) else l[k]?
 | j, [], k => by cases j <;> simp [addEdge]
 | 0, o :: l, k => by cases k <;> simp [addEdge]
 | j + 1, o :: l, k => by
  cases k with
  | zero => simp [addEdge]
  | succ k => simp only [addEdge, List.getElem?_cons_succ, addEdge_get i j l k, Nat.add_right_cancel_iff]
theorem withEdge_get (i j k : Nat) : (withEdge ops i j)[k]? = if k = j then (ops[k]?).map (fun o => { o with after := ⟨o.after.toList ++ [⟨i, .data⟩]⟩ }) else ops[k]? := by
 have := addEdge_get i j ops.toList k
 simpa [withEdge] using this
theorem yielded_edge (i j : Nat) (a : Array Value) : yielded (withEdge ops i j) a = yielded ops a := by
 funext k
 unfold yielded
 rw [withEdge_get]
 by_cases e : k = j
 · rw [if_pos e]
   cases ops[k]? <;> rfl
 · rw [if_neg e]
theorem wpOpIn_edge {i j k : Nat} {q : Option Nat} {m : Nat} {Q : Exit → Act → World → Prop} {K : Act → World → Prop} {a : Act} (h : wpOpIn (FW q) m P (withEdge ops i j) Q k K a w) : wpOpIn (FW q) m P ops Q k K a w := by
 unfold wpOpIn at h ⊢
 rw [withEdge_get] at h
 by_cases e : k = j
 · rw [if_pos e] at h
   cases ho : ops[k]? with
   | none => rw [ho] at h; exact h
   | some o =>
    rw [ho] at h
    dsimp only [Option.map] at h ⊢
    rw [yielded_edge] at h
    exact h
 · rw [if_neg e] at h
   cases ho : ops[k]? with
   | none => rw [ho] at h; exact h
   | some o =>
    rw [ho] at h
    dsimp only at h ⊢
    rw [yielded_edge] at h
    exact h
end
end Go.X
namespace Go.X
noncomputable section
open Go Go.RowKit
variable {w0 w w' : World} {φ φ' φ0 : Phi} {h h' : AH} {P : Program} {n : Nat} {t t' : T Value} {ops : Array Oper} {ls ms : List Nat}
theorem mergeO_left {lo o : List (T Value × AH)} : ∀ x, x ∈ lo → x ∈ mergeO lo o := fun _x hx => List.mem_append.2 (.inl hx)
theorem mergeO_right {lo o : List (T Value × AH)} : ∀ x, x ∈ o → x ∈ mergeO lo o := fun x hx => by
 unfold mergeO
 rw [List.mem_append]
 cases hb : lo.any fun y => sameOut x y with
 | true =>
  obtain ⟨y, hy, e⟩ := List.any_eq_true.1 hb
  rw [sameOut_ok e]; exact .inl hy
 | false => exact .inr (List.mem_filter.2 ⟨hx, by rw [hb]; rfl⟩)
def Cf (P : Program) (call : Call1) (n : Nat) (ops : Array Oper) (ls ms : List Nat) (fk : Fk) (l : List (T Value × AH)) : Ct := fun L seen t1 h1 => ∃ k lo o, fk L t1 h1 = some o ∧ (∀ x, x ∈ o → x ∈ l) ∧ aCont P call n ops ls ms (fLv P call n ops ls ms fk k) L seen t1 h1 = some lo ∧ ∀ x, x ∈ lo → x ∈ l
theorem enter_cf {call : Call1} {fk : Fk} {l lo : List (T Value × AH)} {k L : Nat} {seen : List Nat} (hs : fLv P call n ops ls ms fk k L seen t h = some lo) (hsub : ∀ x, x ∈ lo → x ∈ l) : Enter P n ops ls (Cf P call n ops ls ms fk l) L seen t h := by
 cases k with
 | zero => simp [fLv] at hs
 | succ k =>
  simp only [fLv] at hs
  split at hs
  · cases hs
  · rename_i t1 h1 hns
    split at hs
    · rename_i hr
      split at hs
      · rename_i o lo' ho hlo
        cases hs
        exact ⟨t1, h1, hns, hr, k, lo', o, ho, fun x hx => hsub x (mergeO_right x hx), hlo, fun x hx => hsub x (mergeO_left x hx)⟩
      · cases hs
    · cases hs
theorem cf_step (sp : PlanSpec n ops ls ms) {call : Call1} {fk : Fk} {l : List (T Value × AH)} {i : Nat} {o : Oper} (ho : ops[i]? = some o) (hE : isE ops i = true) : CStep P call n ops ls ms (Cf P call n ops ls ms fk l) (Cf P call n ops ls ms fk l) i o := by
 rintro L seen t1 h1 hL ⟨k, lo, oo, _, _, hcont, hsub⟩
 have hfe := lvE_at sp (Array.getElem?_eq_some_iff.1 ho).1 hE hL
 unfold aCont at hcont
 rw [hfe] at hcont
 dsimp only at hcont
 rw [ho] at hcont
 dsimp only at hcont
 refine ⟨fun hw => ?_, fun hw => ?_⟩
 · rw [if_pos hw] at hcont
   obtain ⟨l0, hl0, hall⟩ := bindL_spec hcont
   refine ⟨l0, hl0, fun v h2 hm => ?_⟩
   obtain ⟨k3, hk3, hsub3⟩ := hall _ hm
   dsimp only at hk3
   split at hk3
   · rename_i t2 hput
     exact ⟨t2, hput, enter_cf hk3 (fun x hx => hsub x (hsub3 x hx))⟩
   · cases hk3
 · rw [if_neg (by rw [hw]; simp)] at hcont
   split at hcont
   · rename_i t2 hput
     exact ⟨t2, hput, enter_cf hcont hsub⟩
   · cases hcont
end
end Go.X
