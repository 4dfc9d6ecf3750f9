/- What the functions on the document's flows do. -/
import Derived.Test.YtdaedcoolcicoaaGreatZj
import Derived.Test.YtdaedcoolcicoaaGreatZm
namespace Go.Arm
noncomputable section
open Go Go.X
namespace Rm
def at_ (m : Rm) (p : Nat) : Int := (m.st[p]?).getD 0
def rcAt (m : Rm) (p : Nat) : Bool := (m.rc[p]?).getD false
def put (m : Rm) (p q : Nat) (x : Th) : Rm := { m with w := up2 m.w p q (m.w p q ++ [x]) }
def pass (m : Rm) (p q : Nat) (v : Int) : Rm := ({ m with st := m.st.set p (Fl.wr (m.at_ p - v)) } : Rm).put p q (.num v)
/-- Marks are sent to all others of the first k. -/
def tell (m : Rm) (p : Nat) : Nat → Rm
  | 0 => m
  | k + 1 => if k = p then m.tell p k else (m.tell p k).put p k .mark
def rec1 (m : Rm) (p : Nat) : Rm := { m with rc := m.rc.set p true, sh := m.sh.set p (m.at_ p) }
def recd (m : Rm) (p : Nat) : Rm := (m.rec1 p).tell p m.st.length
def drop1 (m : Rm) (p q : Nat) (l : List Th) : Rm := { m with w := up2 m.w p q l }
def arrM (m : Rm) (p q : Nat) : Rm :=
  let m1 := if m.rcAt q then m else m.recd q
  { m1 with o := up2 m1.o p q false }
def arrN (m : Rm) (p q : Nat) (v : Int) : Rm :=
  let m1 : Rm := { m with st := m.st.set q (Fl.wr (m.at_ q + v)) }
  if m.bg && m.rcAt q && m.o p q then { m1 with c := up2 m1.c p q (m1.c p q ++ [v]) } else m1
def dlv (m : Rm) (p q : Nat) : Rm := match m.w p q with
  | [] => m
  | .num v :: r => (m.drop1 p q r).arrN p q v
  | .mark :: r => (m.drop1 p q r).arrM p q
def new_ (l : List Int) : Rm := ⟨l, false, [], [], l.length, fun i => if i < l.length then l.length else 0, fun _ _ => [], 0, fun _ => 0, fun _ _ => false, 0, fun _ => 0, fun _ _ => []⟩
/-- Rows of which the first i are made. -/
def openR (m : Rm) (n i : Nat) : Rm := { m with bg := true, rc := List.replicate n false, sh := List.replicate n 0, so := i, co := fun a => if a < i then n else 0, o := fun a b => decide (a < i ∧ a ≠ b), sc := i, cc := fun a => if a < i then n else 0, c := fun _ _ => [] }
def begin_ (m : Rm) (p : Nat) : Rm := (m.openR m.st.length m.st.length).recd p
/-- Lists of one length. -/
structure Sn (n : Nat) (m : Rm) : Prop where
  rc : m.rc.length = n
  sh : m.sh.length = n
  so : m.so = n
  co : ∀ i, i < n → m.co i = n
  sc : m.sc = n
  cc : ∀ i, i < n → m.cc i = n
structure Ok (n : Nat) (m : Rm) : Prop where
  st : m.st.length = n
  sw : m.sw = n
  cw : ∀ i, i < n → m.cw i = n
def le (m : Rm) (K : Nat) : Prop := ∀ i j, (m.w i j).length ≤ K
def leC (m : Rm) (K : Nat) : Prop := ∀ i j, (m.c i j).length ≤ K
section
variable {m : Rm} {n p q k K : Nat} {v : Int} {x : Th} {l : List Th}
theorem Ok.put (h : Ok n m) : Ok n (m.put p q x) := ⟨h.st, h.sw, h.cw⟩
theorem Ok.set (h : Ok n m) (y : Int) : Ok n { m with st := m.st.set p y } := ⟨by rw [List.length_set]; exact h.st, h.sw, h.cw⟩
theorem Ok.pass (h : Ok n m) : Ok n (m.pass p q v) := (h.set _).put
theorem Ok.drop1 (h : Ok n m) : Ok n (m.drop1 p q l) := ⟨h.st, h.sw, h.cw⟩
theorem Ok.rec1 (h : Ok n m) : Ok n (m.rec1 p) := ⟨h.st, h.sw, h.cw⟩
theorem Ok.tell (h : Ok n m) (p : Nat) : ∀ k, Ok n (m.tell p k)
  | 0 => h
  | k + 1 => by
    unfold Rm.tell
    split
    · exact h.tell p k
    · exact (h.tell p k).put
theorem Ok.recd (h : Ok n m) : Ok n (m.recd p) := h.rec1.tell p _
theorem Sn.put (h : Sn n m) : Sn n (m.put p q x) := ⟨h.rc, h.sh, h.so, h.co, h.sc, h.cc⟩
theorem Sn.drop1 (h : Sn n m) : Sn n (m.drop1 p q l) := ⟨h.rc, h.sh, h.so, h.co, h.sc, h.cc⟩
theorem Sn.rec1 (h : Sn n m) : Sn n (m.rec1 p) := ⟨by show (m.rc.set p true).length = n; rw [List.length_set]; exact h.rc, by show (m.sh.set p _).length = n; rw [List.length_set]; exact h.sh, h.so, h.co, h.sc, h.cc⟩
theorem Sn.tell (h : Sn n m) (p : Nat) : ∀ k, Sn n (m.tell p k)
  | 0 => h
  | k + 1 => by
    unfold Rm.tell
    split
    · exact h.tell p k
    · exact (h.tell p k).put
theorem Sn.recd (h : Sn n m) : Sn n (m.recd p) := h.rec1.tell p _
theorem le_put (h : m.le K) : (m.put p q x).le (K + 1) := by
  intro i j
  show (up2 m.w p q _ i j).length ≤ _
  by_cases e : i = p ∧ j = q
  · rw [e.1, e.2, up2_at, List.length_append]; have := h p q; simp; omega
  · rw [up2_ne _ _ e]; have := h i j; omega
/-- Each mark goes to a channel of its own. -/
theorem w_tell (m : Rm) (p i j : Nat) : ∀ k, (m.tell p k).w i j = if i = p ∧ j ≠ p ∧ j < k then m.w i j ++ [.mark] else m.w i j
  | 0 => by rw [if_neg (by omega)]; rfl
  | k + 1 => by
    unfold Rm.tell
    have ih := w_tell m p i j k
    split
    · rename_i e
      rw [ih]
      by_cases h1 : i = p ∧ j ≠ p ∧ j < k
      · rw [if_pos h1, if_pos ⟨h1.1, h1.2.1, by omega⟩]
      · rw [if_neg h1, if_neg (by omega)]
    · rename_i e
      show up2 _ p k _ i j = _
      by_cases h1 : i = p ∧ j = k
      · obtain ⟨rfl, rfl⟩ := h1
        rw [up2_at, ih, if_neg (by omega), if_pos ⟨rfl, e, by omega⟩]
      · rw [up2_ne _ _ h1, ih]
        by_cases h2 : i = p ∧ j ≠ p ∧ j < k
        · rw [if_pos h2, if_pos ⟨h2.1, h2.2.1, by omega⟩]
        · rw [if_neg h2, if_neg (by omega)]
theorem le_drop1 (h : m.le K) (hl : l.length ≤ K) : (m.drop1 p q l).le K := by
  intro i j
  show (up2 m.w p q _ i j).length ≤ _
  by_cases e : i = p ∧ j = q
  · rw [e.1, e.2, up2_at]; exact hl
  · rw [up2_ne _ _ e]; exact h i j
theorem st_tell (m : Rm) (p : Nat) : ∀ k, (m.tell p k).st = m.st
  | 0 => rfl
  | k + 1 => by
    unfold Rm.tell
    split
    · exact st_tell m p k
    · exact st_tell m p k
theorem le_tell (h : m.le K) (p k : Nat) : (m.tell p k).le (K + 1) := by
  intro i j
  rw [w_tell]
  have := h i j
  split
  · rw [List.length_append]; simp; omega
  · omega
end
end Rm
end
end Go.Arm
namespace Go.Proofs.YtdaedcoolcicoaaGreat
noncomputable section
open Go Go.X Go.Arm
theorem u156 : Tryz.prog.underlying 156 = some (.slice 160) := by kernel_rfl
theorem u160 : Tryz.prog.underlying 160 = some (.slice 177) := by kernel_rfl
theorem u177 : Tryz.prog.underlying 177 = some (.slice 183) := by kernel_rfl
theorem u157 : Tryz.prog.underlying 157 = some (.slice 32) := by kernel_rfl
theorem u32 : Tryz.prog.underlying 32 = some (.slice 4) := by kernel_rfl
theorem s160 : szOf Tryz.prog 160 = some 1 := by kernel_rfl
theorem s177 : szOf Tryz.prog 177 = some 1 := by kernel_rfl
theorem s183 : szOf Tryz.prog 183 = some 2 := by kernel_rfl
theorem s32 : szOf Tryz.prog 32 = some 1 := by kernel_rfl
theorem s4 : szOf Tryz.prog 4 = some 1 := by kernel_rfl
theorem s107 : szOf Tryz.prog 107 = some 1 := by kernel_rfl
theorem u78r : Tryz.prog.underlying 78 = some (.slice 107) := by kernel_rfl
theorem u107r : Tryz.prog.underlying 107 = some (.slice 64) := by kernel_rfl
theorem u64r : Tryz.prog.underlying 64 = some (.slice 2) := by kernel_rfl
theorem s64r : szOf Tryz.prog 64 = some 1 := by kernel_rfl
theorem s2r : szOf Tryz.prog 2 = some 1 := by kernel_rfl
section
variable {P : Program} {h h' : AH} {S : Nat → Prop} {T : TypeId} {q : Addr} {v : Value}
theorem cell_sm (s : Sm S h h') {b o : Nat} {sp : Option Nat} (hl : b < h.next) (hS : ¬ S b) : h'.cell ⟨b, o, sp⟩ = h.cell ⟨b, o, sp⟩ := by
  unfold AH.cell
  dsimp only
  rw [s.get _ hl hS]
theorem cells_sm (s : Sm S h h') (hl : q.block < h.next) (hS : ¬ S q.block) : ∀ n i, h'.cells q i n = h.cells q i n
  | 0, i => by simp only [AH.cells]
  | n + 1, i => by simp only [AH.cells, cells_sm s hl hS n (i + 1), cell_sm (o := q.off + i) (sp := q.spot) s hl hS]
/-- A load after steps. -/
theorem ld_sm (s : Sm S h h') (hl : q.block < h.next) (hS : ¬ S q.block) (e : aLoad P T q h = some v) : aLoad P T q h' = some v := by
  rw [← e]
  unfold aLoad
  cases P.underlying T with
  | none => rfl
  | some d =>
    dsimp only
    rw [show h'.cell q = h.cell q from cell_sm (o := q.off) (sp := q.spot) s hl hS]
    cases szOf P T with
    | none => rfl
    | some k => dsimp only; rw [cells_sm s hl hS]
end
/-- A reference's flow after steps. -/
def RP (h : AH) (f : Nat) (V : RL → Value) (m : Rm) (h' : AH) : Prop := ∃ V', RR h' f V' m ∧ Sm (RF f V) h h' ∧ ∀ b, RF f V' b → RF f V b ∨ h.next ≤ b
section
variable {h h' h'' : AH} {f i j p : Nat} {V V' : RL → Value} {m m' : Rm}
theorem RP.refl (H : RR h f V m) : RP h f V m h := ⟨V, H, .refl, fun _ h => .inl h⟩
theorem RP.trans (s : Sm (RF f V) h h') (hb : ∀ b, RF f V' b → RF f V b ∨ h.next ≤ b) (k : RP h' f V' m h'') : RP h f V m h'' := by
  obtain ⟨W, H, t, hw⟩ := k
  refine ⟨W, H, s.trans t hb, fun b hb' => ?_⟩
  rcases hw b hb' with e | e
  · exact hb b e
  · exact .inr (Nat.le_trans s.nx e)
theorem RP.of (s : Sm Nix h h') (k : RP h' f V m h'') : RP h f V m h'' := RP.trans s.of (fun _ h => .inl h) k
theorem RP.ext (k : RP h f V m h') (s : Sm Nix h' h'') : RP h f V m h'' := by
  obtain ⟨W, H, t, hw⟩ := k
  exact ⟨W, H.ext s, t.ext s, hw⟩
theorem getD_map {α β : Type} (g : α → β) {l : List α} {p : Nat} {d : α} {x : β} (hp : p < l.length) (e : (l.map g)[p]? = some x) : x = g ((l[p]?).getD d) := by
  rw [List.getElem?_map, List.getElem?_eq_getElem hp] at e
  rw [List.getElem?_eq_getElem hp]
  exact (Option.some.inj e).symm
theorem _root_.Go.Arm.RR.stAt (H : RR h f V m) (hp : p < m.st.length) : ∃ pa, aIndex Tryz.prog 64 (V .st) (.int .i64 p) = some (.pointer (some pa)) ∧ aLoad Tryz.prog 2 pa h = some (.int .i64 ((m.st[p]?).getD 0)) ∧
    ∀ y, ∃ h', aStore Tryz.prog 2 pa (.int .i64 y) h = some h' ∧ RR h' f V { m with st := m.st.set p y } ∧ Sm (fun b => vb (V .st) = some b) h h' ∧ h'.next = h.next := by
  have G : Ws h 1 (V .st) m.st.length (m.st.map nv) := (H.lay.gr .st).ws
  obtain ⟨pa, x, e1, e2, e3, _, e5⟩ := G.elem u64r s2r (by kernel_rfl) hp .i64
  have ex : x = nv ((m.st[p]?).getD 0) := getD_map nv hp e2
  subst ex
  refine ⟨pa, e1, e3, fun y => ?_⟩
  obtain ⟨h', a1, a2, a3, a4⟩ := e5 (nv y) rfl rfl
  exact ⟨h', a1, H.setSt (by rw [List.length_set, List.map_set]; exact a2) a3, a3, a4⟩
theorem _root_.Go.Arm.RR.shAt (H : RR h f V m) (hp : p < m.sh.length) : ∃ pa, aIndex Tryz.prog 64 (V .sh) (.int .i64 p) = some (.pointer (some pa)) ∧ aLoad Tryz.prog 2 pa h = some (.int .i64 ((m.sh[p]?).getD 0)) ∧
    ∀ y, ∃ h', aStore Tryz.prog 2 pa (.int .i64 y) h = some h' ∧ RR h' f V { m with sh := m.sh.set p y } ∧ Sm (fun b => vb (V .sh) = some b) h h' ∧ h'.next = h.next := by
  have G : Ws h 1 (V .sh) m.sh.length (m.sh.map nv) := (H.lay.gr .sh).ws
  obtain ⟨pa, x, e1, e2, e3, _, e5⟩ := G.elem u64r s2r (by kernel_rfl) hp .i64
  have ex : x = nv ((m.sh[p]?).getD 0) := getD_map nv hp e2
  subst ex
  refine ⟨pa, e1, e3, fun y => ?_⟩
  obtain ⟨h', a1, a2, a3, a4⟩ := e5 (nv y) rfl rfl
  exact ⟨h', a1, H.setSh (by rw [List.length_set, List.map_set]; exact a2) a3, a3, a4⟩
theorem _root_.Go.Arm.RR.rcAt (H : RR h f V m) (hp : p < m.rc.length) : ∃ pa, aIndex Tryz.prog 32 (V .rc) (.int .i64 p) = some (.pointer (some pa)) ∧ aLoad Tryz.prog 4 pa h = some (.bool ((m.rc[p]?).getD false)) ∧
    ∀ y, ∃ h', aStore Tryz.prog 4 pa (.bool y) h = some h' ∧ RR h' f V { m with rc := m.rc.set p y } ∧ Sm (fun b => vb (V .rc) = some b) h h' ∧ h'.next = h.next := by
  have G : Ws h 1 (V .rc) m.rc.length (m.rc.map bw) := (H.lay.gr .rc).ws
  obtain ⟨pa, x, e1, e2, e3, _, e5⟩ := G.elem u32 s4 (by kernel_rfl) hp .i64
  have ex : x = bw ((m.rc[p]?).getD false) := getD_map bw hp e2
  subst ex
  refine ⟨pa, e1, e3, fun y => ?_⟩
  obtain ⟨h', a1, a2, a3, a4⟩ := e5 (bw y) rfl rfl
  exact ⟨h', a1, H.setRc (by rw [List.length_set, List.map_set]; exact a2) a3, a3, a4⟩
theorem range_at {α : Type} {g : Nat → α} {n i : Nat} {x : α} (hi : i < n) (e : ((List.range n).map g)[i]? = some x) : x = g i := by
  rw [List.getElem?_map, List.getElem?_range hi] at e
  exact (Option.some.inj e).symm
theorem _root_.Go.Arm.RR.wAt (H : RR h f V m) (hi : i < m.sw) (hj : j < m.cw i) : ∃ pa pb, aIndex Tryz.prog 156 (V .wt) (.int .i64 i) = some (.pointer (some pa)) ∧ aLoad Tryz.prog 160 pa h = some (V (.wr i)) ∧
    aIndex Tryz.prog 160 (V (.wr i)) (.int .i64 j) = some (.pointer (some pb)) ∧ aLoad Tryz.prog 177 pb h = some (V (.wc i j)) := by
  have G : Ws h 1 (V .wt) m.sw ((List.range m.sw).map fun i => V (.wr i)) := (H.lay.gr .wt).ws
  have G2 : Ws h 1 (V (.wr i)) (m.cw i) ((List.range (m.cw i)).map fun j => V (.wc i j)) := (H.lay.gr (.wr i)).ws
  obtain ⟨pa, x, e1, e2, e3, _, _⟩ := G.elem u156 s160 (by kernel_rfl) hi .i64
  obtain ⟨pb, y, a1, a2, a3, _, _⟩ := G2.elem u160 s177 (by kernel_rfl) hj .i64
  rw [range_at hi e2] at e3
  rw [range_at hj a2] at a3
  exact ⟨pa, pb, e1, e3, a1, a3⟩
theorem _root_.Go.Arm.RR.cAt (H : RR h f V m) (hi : i < m.sc) (hj : j < m.cc i) : ∃ pa pb, aIndex Tryz.prog 78 (V .ct) (.int .i64 i) = some (.pointer (some pa)) ∧ aLoad Tryz.prog 107 pa h = some (V (.cr i)) ∧
    aIndex Tryz.prog 107 (V (.cr i)) (.int .i64 j) = some (.pointer (some pb)) ∧ aLoad Tryz.prog 64 pb h = some (V (.cc i j)) := by
  have G : Ws h 1 (V .ct) m.sc ((List.range m.sc).map fun i => V (.cr i)) := (H.lay.gr .ct).ws
  have G2 : Ws h 1 (V (.cr i)) (m.cc i) ((List.range (m.cc i)).map fun j => V (.cc i j)) := (H.lay.gr (.cr i)).ws
  obtain ⟨pa, x, e1, e2, e3, _, _⟩ := G.elem u78r s107 (by kernel_rfl) hi .i64
  obtain ⟨pb, y, a1, a2, a3, _, _⟩ := G2.elem u107r s64r (by kernel_rfl) hj .i64
  rw [range_at hi e2] at e3
  rw [range_at hj a2] at a3
  exact ⟨pa, pb, e1, e3, a1, a3⟩
theorem _root_.Go.Arm.RR.oAt (H : RR h f V m) (hi : i < m.so) (hj : j < m.co i) : ∃ pa pb, aIndex Tryz.prog 157 (V .ot) (.int .i64 i) = some (.pointer (some pa)) ∧ aLoad Tryz.prog 32 pa h = some (V (.or i)) ∧
    aIndex Tryz.prog 32 (V (.or i)) (.int .i64 j) = some (.pointer (some pb)) ∧ aLoad Tryz.prog 4 pb h = some (.bool (m.o i j)) ∧
    ∀ x, ∃ h', aStore Tryz.prog 4 pb (.bool x) h = some h' ∧ RR h' f V { m with o := Rm.up2 m.o i j x } ∧ Sm (fun b => vb (V (.or i)) = some b) h h' ∧ h'.next = h.next := by
  have G : Ws h 1 (V .ot) m.so ((List.range m.so).map fun i => V (.or i)) := (H.lay.gr .ot).ws
  have G2 : Ws h 1 (V (.or i)) (m.co i) ((List.range (m.co i)).map fun j => bw (m.o i j)) := (H.lay.gr (.or i)).ws
  obtain ⟨pa, x, e1, e2, e3, _, _⟩ := G.elem u157 s32 (by kernel_rfl) hi .i64
  obtain ⟨pb, y, a1, a2, a3, _, a5⟩ := G2.elem u32 s4 (by kernel_rfl) hj .i64
  rw [range_at hi e2] at e3
  rw [range_at hj a2] at a3
  refine ⟨pa, pb, e1, e3, a1, a3, fun x => ?_⟩
  obtain ⟨h', b1, b2, b3, b4⟩ := a5 (bw x) rfl rfl
  exact ⟨h', b1, H.setO b2 b3, b3, b4⟩
theorem _root_.Go.Arm.RR.wAtB (H : RR h f V m) (hi : i < m.sw) (hj : j < m.cw i) : ∃ pa pb, aIndex Tryz.prog 156 (V .wt) (.int .i64 i) = some (.pointer (some pa)) ∧ aLoad Tryz.prog 160 pa h = some (V (.wr i)) ∧
    aIndex Tryz.prog 160 (V (.wr i)) (.int .i64 j) = some (.pointer (some pb)) ∧ aLoad Tryz.prog 177 pb h = some (V (.wc i j)) ∧ vb (V .wt) = some pa.block ∧ vb (V (.wr i)) = some pb.block := by
  have G : Ws h 1 (V .wt) m.sw ((List.range m.sw).map fun i => V (.wr i)) := (H.lay.gr .wt).ws
  have G2 : Ws h 1 (V (.wr i)) (m.cw i) ((List.range (m.cw i)).map fun j => V (.wc i j)) := (H.lay.gr (.wr i)).ws
  obtain ⟨pa, x, e1, e2, e3, e4, _⟩ := G.elem u156 s160 (by kernel_rfl) hi .i64
  obtain ⟨pb, y, a1, a2, a3, a4, _⟩ := G2.elem u160 s177 (by kernel_rfl) hj .i64
  rw [range_at hi e2] at e3
  rw [range_at hj a2] at a3
  exact ⟨pa, pb, e1, e3, a1, a3, e4, a4⟩
theorem _root_.Go.Arm.RR.cAtB (H : RR h f V m) (hi : i < m.sc) (hj : j < m.cc i) : ∃ pa pb, aIndex Tryz.prog 78 (V .ct) (.int .i64 i) = some (.pointer (some pa)) ∧ aLoad Tryz.prog 107 pa h = some (V (.cr i)) ∧
    aIndex Tryz.prog 107 (V (.cr i)) (.int .i64 j) = some (.pointer (some pb)) ∧ aLoad Tryz.prog 64 pb h = some (V (.cc i j)) ∧ vb (V .ct) = some pa.block ∧ vb (V (.cr i)) = some pb.block := by
  have G : Ws h 1 (V .ct) m.sc ((List.range m.sc).map fun i => V (.cr i)) := (H.lay.gr .ct).ws
  have G2 : Ws h 1 (V (.cr i)) (m.cc i) ((List.range (m.cc i)).map fun j => V (.cc i j)) := (H.lay.gr (.cr i)).ws
  obtain ⟨pa, x, e1, e2, e3, e4, _⟩ := G.elem u78r s107 (by kernel_rfl) hi .i64
  obtain ⟨pb, y, a1, a2, a3, a4, _⟩ := G2.elem u107r s64r (by kernel_rfl) hj .i64
  rw [range_at hi e2] at e3
  rw [range_at hj a2] at a3
  exact ⟨pa, pb, e1, e3, a1, a3, e4, a4⟩
theorem _root_.Go.Arm.RR.wGr (H : RR h f V m) (i j : Nat) : Gr h 2 (V (.wc i j)) (m.w i j).length ((m.w i j).flatMap thw) := H.lay.gr (.wc i j)
theorem _root_.Go.Arm.RR.cGr (H : RR h f V m) (i j : Nat) : Gr h 1 (V (.cc i j)) (m.c i j).length ((m.c i j).map nv) := H.lay.gr (.cc i j)
theorem _root_.Go.Arm.RR.stWs (H : RR h f V m) : Ws h 1 (V .st) m.st.length (m.st.map nv) := (H.lay.gr .st).ws
theorem thw_len (l : List Th) : (l.flatMap thw).length = l.length * 2 := by
  induction l with
  | nil => rfl
  | cons x r ih =>
    rw [List.flatMap_cons, List.length_append, ih, List.length_cons]
    have : (thw x).length = 2 := by cases x <;> rfl
    omega
theorem thw_at : ∀ {l : List Th} {i : Nat} {x : Th}, l[i]? = some x → (l.flatMap thw)[i * 2 + 0]? = (thw x)[0]? ∧ (l.flatMap thw)[i * 2 + 1]? = (thw x)[1]?
  | [], i, x, e => by simp at e
  | y :: r, 0, x, e => by
    have e : some y = some x := by simpa using e
    cases e
    rw [List.flatMap_cons]
    cases y <;> exact ⟨rfl, rfl⟩
  | y :: r, i + 1, x, e => by
    have e : r[i]? = some x := by simpa using e
    have ih := thw_at e
    rw [List.flatMap_cons]
    have hl : (thw y).length = 2 := by cases y <;> rfl
    rw [List.getElem?_append_right (by omega), List.getElem?_append_right (by omega), hl, show (i + 1) * 2 + 0 - 2 = i * 2 + 0 by omega, show (i + 1) * 2 + 1 - 2 = i * 2 + 1 by omega]
    exact ih
def thMark : Th → Bool
  | .num _ => false
  | .mark => true
def thNum : Th → Int
  | .num v => v
  | .mark => 0
theorem thw_eq (x : Th) : thw x = [.bool (thMark x), .int .i64 (thNum x)] := by cases x <;> rfl
/-- A thing on a channel. -/
theorem thAt {v : Value} {l : List Th} {i : Nat} (G : Sd h 2 v l.length (l.flatMap thw)) (hi : i < l.length) : ∃ b o x, l[i]? = some x ∧ aIndex Tryz.prog 177 v (.int .i64 i) = some (.pointer (some ⟨b, o, none⟩)) ∧
    aLoad Tryz.prog 4 ⟨b, o, none⟩ h = some (.bool (thMark x)) ∧ aLoad Tryz.prog 2 ⟨b, o + 1, none⟩ h = some (.int .i64 (thNum x)) ∧ aLoad Tryz.prog 183 ⟨b, o, none⟩ h = some (.agg ⟨[.bool (thMark x), .int .i64 (thNum x)]⟩) := by
  obtain ⟨b, o, _, e2, e3⟩ := G.at u177 s183 hi .i64
  have ex : l[i]? = some l[i] := List.getElem?_eq_getElem hi
  obtain ⟨f0, f1⟩ := thw_at ex
  rw [thw_eq] at f0 f1
  have c0 := e3 0 (by omega)
  have c1 := e3 1 (by omega)
  rw [f0] at c0
  rw [f1] at c1
  exact ⟨b, o, l[i], ex, e2, ld_cell (by kernel_rfl) c0, ld_cell (by kernel_rfl) c1, ld_two (by kernel_rfl) c0 c1⟩
theorem thw_one {l : List Th} : ∀ x, x ∈ l.flatMap thw → x.oneCell' = true := by
  intro x hx
  obtain ⟨y, _, hy⟩ := List.mem_flatMap.1 hx
  rw [thw_eq] at hy
  simp only [List.mem_cons, List.not_mem_nil, or_false] at hy
  rcases hy with rfl | rfl <;> rfl
theorem nv_one {l : List Int} : ∀ x, x ∈ l.map nv → x.oneCell' = true := by
  intro x hx
  obtain ⟨y, _, rfl⟩ := List.mem_map.1 hx
  rfl
theorem RF.ups {r : RL} {v : Value} {b : Nat} (hv : ∀ b, vb v = some b → vb (V r) = some b ∨ h.next ≤ b) (hb : RF f (ups V r v) b) : RF f V b ∨ h.next ≤ b := by
  rcases hb with e | ⟨r', e⟩
  · exact .inl (.inl e)
  · by_cases hr : r' = r
    · subst hr; rw [ups_at] at e
      rcases hv b e with e | e
      · exact .inl (.inr ⟨_, e⟩)
      · exact .inr e
    · rw [ups_ne _ _ hr] at e; exact .inl (.inr ⟨_, e⟩)
/-- A list on a channel is another one. -/
theorem _root_.Go.Arm.RR.repW (H : RR h f V m) (hi : i < m.sw) (hj : j < m.cw i) {l : List Th} {v : Value} {h1 : AH} (s : Sm (fun b => vb (V (.wc i j)) = some b) h h1) (g : Gr h1 2 v l.length (l.flatMap thw)) (hv : ∀ b, vb v = some b → vb (V (.wc i j)) = some b ∨ h.next ≤ b) :
    ∃ pa pb h2, aIndex Tryz.prog 156 (V .wt) (.int .i64 i) = some (.pointer (some pa)) ∧ aLoad Tryz.prog 160 pa h = some (V (.wr i)) ∧ aLoad Tryz.prog 160 pa h1 = some (V (.wr i)) ∧
      aIndex Tryz.prog 160 (V (.wr i)) (.int .i64 j) = some (.pointer (some pb)) ∧ aLoad Tryz.prog 177 pb h = some (V (.wc i j)) ∧ Cl h1 f [V .st, V .wt, .bool m.bg, V .rc, V .sh, V .ot, V .ct] ∧
      aStore Tryz.prog 177 pb v h1 = some h2 ∧ RR h2 f (ups V (.wc i j) v) { m with w := Rm.up2 m.w i j l } ∧ Sm (RF f V) h h2 ∧ h2.next = h1.next ∧ ∀ b, RF f (ups V (.wc i j) v) b → RF f V b ∨ h.next ≤ b := by
  obtain ⟨pa, pb, e1, e2, e3, e4, e5, e6⟩ := H.wAtB hi hj
  obtain ⟨pb', h2, a1, a2, a3, a4, a5⟩ := H.putW (P := Tryz.prog) (T := 160) (el := 177) hj (by kernel_rfl) (by kernel_rfl) (by kernel_rfl) s g hv
  obtain rfl : pb = pb' := by rw [e3] at a1; cases a1; rfl
  refine ⟨pa, pb, h2, e1, e2, ld_sm s (H.lay.lt e5) (fun x => ?_) e2, e3, e4, H.cl.sm s (H.me _), a2, a3, a4.mono (fun b hb => hb.elim (fun e => .inr ⟨_, e⟩) (fun e => .inr ⟨_, e⟩)), a5, fun b hb => RF.ups hv hb⟩
  have := H.lay.inj _ _ _ e5 x
  cases this
/-- A list on a channel is another one. -/
theorem _root_.Go.Arm.RR.repC (H : RR h f V m) (hi : i < m.sc) (hj : j < m.cc i) {l : List Int} {v : Value} {h1 : AH} (s : Sm (fun b => vb (V (.cc i j)) = some b) h h1) (g : Gr h1 1 v l.length (l.map nv)) (hv : ∀ b, vb v = some b → vb (V (.cc i j)) = some b ∨ h.next ≤ b) :
    ∃ pa pb h2, aIndex Tryz.prog 78 (V .ct) (.int .i64 i) = some (.pointer (some pa)) ∧ aLoad Tryz.prog 107 pa h = some (V (.cr i)) ∧ aLoad Tryz.prog 107 pa h1 = some (V (.cr i)) ∧
      aIndex Tryz.prog 107 (V (.cr i)) (.int .i64 j) = some (.pointer (some pb)) ∧ aLoad Tryz.prog 64 pb h = some (V (.cc i j)) ∧ Cl h1 f [V .st, V .wt, .bool m.bg, V .rc, V .sh, V .ot, V .ct] ∧
      aStore Tryz.prog 64 pb v h1 = some h2 ∧ RR h2 f (ups V (.cc i j) v) { m with c := Rm.up2 m.c i j l } ∧ Sm (RF f V) h h2 ∧ h2.next = h1.next ∧ ∀ b, RF f (ups V (.cc i j) v) b → RF f V b ∨ h.next ≤ b := by
  obtain ⟨pa, pb, e1, e2, e3, e4, e5, e6⟩ := H.cAtB hi hj
  obtain ⟨pb', h2, a1, a2, a3, a4, a5⟩ := H.putC (P := Tryz.prog) (T := 107) (el := 64) hj (by kernel_rfl) (by kernel_rfl) (by kernel_rfl) s g hv
  obtain rfl : pb = pb' := by rw [e3] at a1; cases a1; rfl
  refine ⟨pa, pb, h2, e1, e2, ld_sm s (H.lay.lt e5) (fun x => ?_) e2, e3, e4, H.cl.sm s (H.me _), a2, a3, a4.mono (fun b hb => hb.elim (fun e => .inr ⟨_, e⟩) (fun e => .inr ⟨_, e⟩)), a5, fun b hb => RF.ups hv hb⟩
  have := H.lay.inj _ _ _ e5 x
  cases this
theorem sd2 {b : Nat} {x y : Value} (hc : Cl h b [x, y]) : Sd h 2 (.slice (some ⟨b, 0, none⟩) 1 1) 1 [x, y] := by
  refine ⟨rfl, .inr ?_⟩
  obtain ⟨h1, c, op, h2, h3⟩ := hc
  exact ⟨b, 0, 1, c, 2, op, false, by decide, by decide, rfl, h1, h2, by decide, fun j hj => by rw [Nat.zero_add]; exact h3 j hj⟩
theorem vb_lt {V : RL → Value} (H : RR h f V m) {r : RL} {b : Nat} (e : vb (V r) = some b) : b < h.next := H.lay.lt e
/-- One more thing on a channel; h0 has the new thing too. -/
theorem _root_.Go.Arm.RR.appW {h0 : AH} (H : RR h f V m) (hi : i < m.sw) (hj : j < m.cw i) (x : Th) (t : Sm Nix h h0) {u : Value} (hu : Sd h0 2 u 1 (thw x)) (hl : (m.w i j).length < 4000000000) :
    ∃ pa pb v' h1 h2, aIndex Tryz.prog 156 (V .wt) (.int .i64 i) = some (.pointer (some pa)) ∧ aLoad Tryz.prog 160 pa h = some (V (.wr i)) ∧ aLoad Tryz.prog 160 pa h0 = some (V (.wr i)) ∧ aLoad Tryz.prog 160 pa h1 = some (V (.wr i)) ∧
      aIndex Tryz.prog 160 (V (.wr i)) (.int .i64 j) = some (.pointer (some pb)) ∧ aLoad Tryz.prog 177 pb h = some (V (.wc i j)) ∧ aLoad Tryz.prog 177 pb h0 = some (V (.wc i j)) ∧ aAppend Tryz.prog 177 177 (V (.wc i j)) u h0 = some (v', h1) ∧
      Cl h0 f [V .st, V .wt, .bool m.bg, V .rc, V .sh, V .ot, V .ct] ∧ Cl h1 f [V .st, V .wt, .bool m.bg, V .rc, V .sh, V .ot, V .ct] ∧
      aStore Tryz.prog 177 pb v' h1 = some h2 ∧ RR h2 f (ups V (.wc i j) v') (m.put i j x) ∧ Sm (RF f V) h h2 ∧ ∀ b, RF f (ups V (.wc i j) v') b → RF f V b ∨ h.next ≤ b := by
  have G := (H.wGr i j).ext t
  obtain ⟨v', h1, e1, g1, s1, n1⟩ := G.append (P := Tryz.prog) (sT := 177) (xT := 177) (el := 183) (by_ := 16) (z := .agg ⟨[.bool false, .int .i64 0]⟩) (m := 1) (ds := thw x) (by kernel_rfl) (by kernel_rfl) (by kernel_rfl) (by kernel_rfl) (by kernel_rfl) (by kernel_rfl) (by decide) hu (fun y hy => thw_one (l := [x]) y (by simpa using hy)) (by omega)
  have H0 := H.ext t
  obtain ⟨pa, pb, h2, a1, a2, a3, a4, a5, a6, a7, a8, a9, _, a11⟩ := H0.repW hi hj (l := m.w i j ++ [x]) s1 (by rw [List.length_append, List.flatMap_append]; simpa using g1) n1
  obtain ⟨pa', pb', b1, b2, b3, b4, _, _⟩ := H.wAtB hi hj
  obtain rfl : pa = pa' := by rw [a1] at b1; cases b1; rfl
  obtain rfl : pb = pb' := by rw [a4] at b3; cases b3; rfl
  exact ⟨pa, pb, v', h1, h2, a1, b2, a2, a3, a4, b4, a5, e1, H0.cl, a6, a7, a8, t.of.trans a9 (fun _ h => .inl h), fun b hb => (a11 b hb).elim .inl (fun e => .inr (Nat.le_trans t.nx e))⟩
/-- One more number among contents; h0 has the new number too. -/
theorem _root_.Go.Arm.RR.appC {h0 : AH} (H : RR h f V m) (hi : i < m.sc) (hj : j < m.cc i) (x : Int) (t : Sm Nix h h0) {u : Value} (hu : Sd h0 1 u 1 [.int .i64 x]) (hl : (m.c i j).length < 4000000000) :
    ∃ pa pb v' h1 h2, aIndex Tryz.prog 78 (V .ct) (.int .i64 i) = some (.pointer (some pa)) ∧ aLoad Tryz.prog 107 pa h = some (V (.cr i)) ∧ aLoad Tryz.prog 107 pa h0 = some (V (.cr i)) ∧ aLoad Tryz.prog 107 pa h1 = some (V (.cr i)) ∧
      aIndex Tryz.prog 107 (V (.cr i)) (.int .i64 j) = some (.pointer (some pb)) ∧ aLoad Tryz.prog 64 pb h = some (V (.cc i j)) ∧ aLoad Tryz.prog 64 pb h0 = some (V (.cc i j)) ∧ aAppend Tryz.prog 64 64 (V (.cc i j)) u h0 = some (v', h1) ∧
      Cl h0 f [V .st, V .wt, .bool m.bg, V .rc, V .sh, V .ot, V .ct] ∧ Cl h1 f [V .st, V .wt, .bool m.bg, V .rc, V .sh, V .ot, V .ct] ∧
      aStore Tryz.prog 64 pb v' h1 = some h2 ∧ RR h2 f (ups V (.cc i j) v') { m with c := Rm.up2 m.c i j (m.c i j ++ [x]) } ∧ Sm (RF f V) h h2 ∧ ∀ b, RF f (ups V (.cc i j) v') b → RF f V b ∨ h.next ≤ b := by
  have G := (H.cGr i j).ext t
  obtain ⟨v', h1, e1, g1, s1, n1⟩ := G.append (P := Tryz.prog) (sT := 64) (xT := 64) (el := 2) (by_ := 8) (z := .int .i64 0) (m := 1) (ds := [.int .i64 x]) (by kernel_rfl) (by kernel_rfl) (by kernel_rfl) (by kernel_rfl) (by kernel_rfl) (by kernel_rfl) (by decide) hu (fun y hy => by cases List.mem_singleton.1 hy; rfl) (by omega)
  have H0 := H.ext t
  obtain ⟨pa, pb, h2, a1, a2, a3, a4, a5, a6, a7, a8, a9, _, a11⟩ := H0.repC hi hj (l := m.c i j ++ [x]) s1 (by rw [List.length_append, List.map_append]; simpa [nv] using g1) n1
  obtain ⟨pa', pb', b1, b2, b3, b4, _, _⟩ := H.cAtB hi hj
  obtain rfl : pa = pa' := by rw [a1] at b1; cases b1; rfl
  obtain rfl : pb = pb' := by rw [a4] at b3; cases b3; rfl
  exact ⟨pa, pb, v', h1, h2, a1, b2, a2, a3, a4, b4, a5, e1, H0.cl, a6, a7, a8, t.of.trans a9 (fun _ h => .inl h), fun b hb => (a11 b hb).elim .inl (fun e => .inr (Nat.le_trans t.nx e))⟩
/-- All but the first thing of a channel; h0 has a new list without elements too. -/
theorem _root_.Go.Arm.RR.tailW {h0 : AH} {x : Th} {r : List Th} (H : RR h f V m) (hi : i < m.sw) (hj : j < m.cw i) (hw : m.w i j = x :: r) (t : Sm Nix h h0) {b0 : Nat} (hb0 : b0 = h.next) (hb1 : b0 < h0.next) (hl : r.length < 4000000000) :
    ∃ pa pb s' v' h1 h2, aIndex Tryz.prog 156 (V .wt) (.int .i64 i) = some (.pointer (some pa)) ∧ aLoad Tryz.prog 160 pa h = some (V (.wr i)) ∧ aLoad Tryz.prog 160 pa h0 = some (V (.wr i)) ∧ aLoad Tryz.prog 160 pa h1 = some (V (.wr i)) ∧
      aIndex Tryz.prog 160 (V (.wr i)) (.int .i64 j) = some (.pointer (some pb)) ∧ aLoad Tryz.prog 177 pb h0 = some (V (.wc i j)) ∧ aSl Tryz.prog 177 (V (.wc i j)) (some (.int .i64 1)) none none h0 = some s' ∧ aAppend Tryz.prog 177 177 (.slice (some ⟨b0, 0, none⟩) 0 0) s' h0 = some (v', h1) ∧
      Cl h0 f [V .st, V .wt, .bool m.bg, V .rc, V .sh, V .ot, V .ct] ∧ Cl h1 f [V .st, V .wt, .bool m.bg, V .rc, V .sh, V .ot, V .ct] ∧
      aStore Tryz.prog 177 pb v' h1 = some h2 ∧ RR h2 f (ups V (.wc i j) v') (m.drop1 i j r) ∧ Sm (RF f V) h h2 ∧ ∀ b, RF f (ups V (.wc i j) v') b → RF f V b ∨ h.next ≤ b := by
  have G := (H.wGr i j).ext t
  rw [hw, List.length_cons, List.flatMap_cons] at G
  obtain ⟨s', es, gs, _⟩ := G.tailK (P := Tryz.prog) u177 s183
  have hd : (thw x ++ r.flatMap thw).drop 2 = r.flatMap thw := by cases x <;> rfl
  rw [hd] at gs
  have G0 : Gr h0 2 (.slice (some ⟨b0, 0, none⟩) 0 0) 0 [] := ⟨rfl, .inl ⟨rfl, .inr ⟨_, rfl, hb1⟩⟩⟩
  obtain ⟨v', h1, e1, g1, s1, n1⟩ := G0.append (P := Tryz.prog) (sT := 177) (xT := 177) (el := 183) (by_ := 16) (z := .agg ⟨[.bool false, .int .i64 0]⟩) (m := r.length) (ds := r.flatMap thw) (by kernel_rfl) (by kernel_rfl) (by kernel_rfl) (by kernel_rfl) (by kernel_rfl) (by kernel_rfl) (by decide) gs.sd thw_one (by omega)
  have t1 : Sm Nix h h1 := t.trans s1 (fun b hb => by cases hb; exact .inr (by show h.next ≤ b0; omega))
  obtain ⟨pa, pb, h2, a1, a2, a3, a4, a5, a6, a7, a8, a9, _, a11⟩ := H.repW hi hj (l := r) t1.of (by simpa using g1) (fun b hb => (n1 b hb).elim (fun e => by cases e; exact .inr (by show h.next ≤ b0; omega)) (fun e => .inr (Nat.le_trans t.nx e)))
  obtain ⟨pa', pb', b1, b2, b3, b4, _, _⟩ := (H.ext t).wAtB hi hj
  obtain rfl : pa = pa' := by rw [a1] at b1; cases b1; rfl
  obtain rfl : pb = pb' := by rw [a4] at b3; cases b3; rfl
  exact ⟨pa, pb, s', v', h1, h2, a1, a2, b2, a3, a4, b4, es, e1, (H.ext t).cl, a6, a7, a8, a9, a11⟩
end
end
end Go.Proofs.YtdaedcoolcicoaaGreat
namespace Go.Proofs.YtdaedcoolcicoaaGreat
noncomputable section
open Go Go.X Go.Arm
theorem way_ok {h : AH} {f : Nat} {V : RL → Value} {m : Rm} {p q : Int} (H : RR h f V m) :
    Arm.Calls Tryz.prog 92 [ptr f, .int .i64 p, .int .i64 q] h (fun r => r = (.int .i64 (chk2 m.st.length p q), h)) := by
  have hcase : p < 0 ∨ (0 ≤ p ∧ (m.st.length : Int) ≤ p) ∨ (0 ≤ p ∧ p < (m.st.length : Int) ∧ q < 0) ∨ (0 ≤ p ∧ p < (m.st.length : Int) ∧ 0 ≤ q ∧ (m.st.length : Int) ≤ q) ∨ (0 ≤ p ∧ p < (m.st.length : Int) ∧ 0 ≤ q ∧ q < (m.st.length : Int)) := by omega
  refine Calls_of_W (n := 32) (fn := Tryz.f92) (by kernel_rfl) rfl rfl (Nat.le_of_ble_eq_true rfl) trivial ⟨.inr (by simp), rfl⟩ ?_
  refine W_seq ?_
  refine W_region ?_
  refine L_g 1 (by kernel_rfl) ?_
  refine L_nil ?_
  refine W_seq ?_
  refine W_region ?_
  refine L_g 3 (by kernel_rfl) ?_
  refine L_ld _ rfl rfl (by kernel_rfl) (H.cl.ld (o := 0) (by kernel_rfl) rfl) ?_
  refine L_ln _ rfl rfl (by kernel_rfl) (H.stWs.lenV u64r) ?_
  refine L_g 1 (by kernel_rfl) ?_
  refine L_nil ?_
  refine W_seq ?_
  refine W_seq ?_
  rcases hcase with hc | hc | hc | hc | hc
  ·
    refine W_region ?_
    refine L_g 1 (by kernel_rfl) ?_
    refine L_i (p) (0) (.bool true) rfl rfl (by kernel_rfl) (by kernel_rfl) rfl (by first | (simp; done) | (simp; omega)) ?_
    refine L_g 14 (by kernel_rfl) ?_
    refine L_nil ?_
    refine W_cond true (by kernel_rfl) (fun _ => ?_) (fun e => by cases e)
    refine W_seq ?_
    refine W_region ?_
    refine L_g 1 (by kernel_rfl) ?_
    refine L_nil ?_
    refine W_ret ?_
    repeat first | with_reducible refine then_ret ?_ | with_reducible refine blk_ret ?_
    refine done_of (v := .int .i64 11) (.inl rfl) (by kernel_rfl) ?_
    unfold chk2; rw [if_pos (by omega)]
  ·
    refine W_region ?_
    refine L_g 1 (by kernel_rfl) ?_
    refine L_i (p) (0) (.bool false) rfl rfl (by kernel_rfl) (by kernel_rfl) rfl (by first | (simp; done) | (simp; omega)) ?_
    refine L_g 3 (by kernel_rfl) ?_
    refine L_want (by kernel_rfl) ?_
    refine L_i (p) ((m.st.length : Int)) (.bool true) rfl rfl (by kernel_rfl) (by kernel_rfl) rfl (by first | (simp; done) | (simp; omega)) ?_
    refine L_g 10 (by kernel_rfl) ?_
    refine L_nil ?_
    refine W_cond true (by kernel_rfl) (fun _ => ?_) (fun e => by cases e)
    refine W_seq ?_
    refine W_region ?_
    refine L_g 1 (by kernel_rfl) ?_
    refine L_nil ?_
    refine W_ret ?_
    repeat first | with_reducible refine then_ret ?_ | with_reducible refine blk_ret ?_
    refine done_of (v := .int .i64 11) (.inl rfl) (by kernel_rfl) ?_
    unfold chk2; rw [if_pos (by omega)]
  ·
    refine W_region ?_
    refine L_g 1 (by kernel_rfl) ?_
    refine L_i (p) (0) (.bool false) rfl rfl (by kernel_rfl) (by kernel_rfl) rfl (by first | (simp; done) | (simp; omega)) ?_
    refine L_g 3 (by kernel_rfl) ?_
    refine L_want (by kernel_rfl) ?_
    refine L_i (p) ((m.st.length : Int)) (.bool false) rfl rfl (by kernel_rfl) (by kernel_rfl) rfl (by first | (simp; done) | (simp; omega)) ?_
    refine L_g 3 (by kernel_rfl) ?_
    refine L_want (by kernel_rfl) ?_
    refine L_i (q) (0) (.bool true) rfl rfl (by kernel_rfl) (by kernel_rfl) rfl (by first | (simp; done) | (simp; omega)) ?_
    refine L_g 6 (by kernel_rfl) ?_
    refine L_nil ?_
    refine W_cond true (by kernel_rfl) (fun _ => ?_) (fun e => by cases e)
    refine W_seq ?_
    refine W_region ?_
    refine L_g 1 (by kernel_rfl) ?_
    refine L_nil ?_
    refine W_ret ?_
    repeat first | with_reducible refine then_ret ?_ | with_reducible refine blk_ret ?_
    refine done_of (v := .int .i64 11) (.inl rfl) (by kernel_rfl) ?_
    unfold chk2; rw [if_neg (by omega), if_pos (by omega)]
  ·
    refine W_region ?_
    refine L_g 1 (by kernel_rfl) ?_
    refine L_i (p) (0) (.bool false) rfl rfl (by kernel_rfl) (by kernel_rfl) rfl (by first | (simp; done) | (simp; omega)) ?_
    refine L_g 3 (by kernel_rfl) ?_
    refine L_want (by kernel_rfl) ?_
    refine L_i (p) ((m.st.length : Int)) (.bool false) rfl rfl (by kernel_rfl) (by kernel_rfl) rfl (by first | (simp; done) | (simp; omega)) ?_
    refine L_g 3 (by kernel_rfl) ?_
    refine L_want (by kernel_rfl) ?_
    refine L_i (q) (0) (.bool false) rfl rfl (by kernel_rfl) (by kernel_rfl) rfl (by first | (simp; done) | (simp; omega)) ?_
    refine L_g 4 (by kernel_rfl) ?_
    refine L_want (by kernel_rfl) ?_
    refine L_i (q) ((m.st.length : Int)) (.bool true) rfl rfl (by kernel_rfl) (by kernel_rfl) rfl (by first | (simp; done) | (simp; omega)) ?_
    refine L_g 1 (by kernel_rfl) ?_
    refine L_nil ?_
    refine W_cond true (by kernel_rfl) (fun _ => ?_) (fun e => by cases e)
    refine W_seq ?_
    refine W_region ?_
    refine L_g 1 (by kernel_rfl) ?_
    refine L_nil ?_
    refine W_ret ?_
    repeat first | with_reducible refine then_ret ?_ | with_reducible refine blk_ret ?_
    refine done_of (v := .int .i64 11) (.inl rfl) (by kernel_rfl) ?_
    unfold chk2; rw [if_neg (by omega), if_pos (by omega)]
  ·
    refine W_region ?_
    refine L_g 1 (by kernel_rfl) ?_
    refine L_i (p) (0) (.bool false) rfl rfl (by kernel_rfl) (by kernel_rfl) rfl (by first | (simp; done) | (simp; omega)) ?_
    refine L_g 3 (by kernel_rfl) ?_
    refine L_want (by kernel_rfl) ?_
    refine L_i (p) ((m.st.length : Int)) (.bool false) rfl rfl (by kernel_rfl) (by kernel_rfl) rfl (by first | (simp; done) | (simp; omega)) ?_
    refine L_g 3 (by kernel_rfl) ?_
    refine L_want (by kernel_rfl) ?_
    refine L_i (q) (0) (.bool false) rfl rfl (by kernel_rfl) (by kernel_rfl) rfl (by first | (simp; done) | (simp; omega)) ?_
    refine L_g 4 (by kernel_rfl) ?_
    refine L_want (by kernel_rfl) ?_
    refine L_i (q) ((m.st.length : Int)) (.bool false) rfl rfl (by kernel_rfl) (by kernel_rfl) rfl (by first | (simp; done) | (simp; omega)) ?_
    refine L_g 1 (by kernel_rfl) ?_
    refine L_nil ?_
    refine W_cond false (by kernel_rfl) (fun e => by cases e) (fun _ => ?_)
    refine W_skip ?_
    refine W_seq ?_
    refine W_seq ?_
    refine W_region ?_
    refine L_g 3 (by kernel_rfl) ?_
    refine L_nil ?_
    refine W_cond (p == q) (by kernel_rfl) (fun hb => ?_) (fun hb => ?_)
    ·
      refine W_seq ?_
      refine W_region ?_
      refine L_g 1 (by kernel_rfl) ?_
      refine L_nil ?_
      refine W_ret ?_
      repeat first | with_reducible refine then_ret ?_ | with_reducible refine blk_ret ?_
      refine done_of (v := .int .i64 2) (.inl rfl) (by kernel_rfl) ?_
      have hb : p = q := by simpa using hb
      unfold chk2; rw [if_neg (by omega), if_neg (by omega), if_pos hb]
    ·
      refine W_skip ?_
      refine W_seq ?_
      refine W_region ?_
      refine L_g 1 (by kernel_rfl) ?_
      refine L_nil ?_
      refine W_ret ?_
      repeat first | with_reducible refine then_ret ?_ | with_reducible refine blk_ret ?_
      refine done_of (v := .int .i64 0) (.inl rfl) (by kernel_rfl) ?_
      have hb : ¬ p = q := by simpa using hb
      unfold chk2; rw [if_neg (by omega), if_neg (by omega), if_neg hb]
theorem rstate_ok {h : AH} {f : Nat} {V : RL → Value} {m : Rm} {p : Nat} (H : RR h f V m) (hp : p < m.st.length) :
    Arm.Calls Tryz.prog 95 [ptr f, .int .i64 p] h (fun r => r = (.tuple ⟨[.int .i64 (m.at_ p), .int .i64 0]⟩, h)) := by
  obtain ⟨pa, ei, el, _⟩ := H.stAt hp
  refine Calls_of_W (n := 24) (fn := Tryz.f95) (by kernel_rfl) rfl rfl (Nat.le_of_ble_eq_true rfl) trivial ⟨.inr (by simp), rfl⟩ ?_
  refine W_seq ?_
  refine W_region ?_
  refine L_g 2 (by kernel_rfl) ?_
  refine L_nil ?_
  refine W_seq ?_
  refine W_seq ?_
  refine W_region ?_
  refine L_g 1 (by kernel_rfl) ?_
  refine L_i ((p : Int)) (0) (.bool false) rfl rfl (by kernel_rfl) (by kernel_rfl) rfl (by first | (simp; done) | (simp; omega)) ?_
  refine L_g 5 (by kernel_rfl) ?_
  refine L_want (by kernel_rfl) ?_
  refine L_ld _ rfl rfl (by kernel_rfl) (H.cl.ld (o := 0) (by kernel_rfl) rfl) ?_
  refine L_want (by kernel_rfl) ?_
  refine L_ln _ rfl rfl (by kernel_rfl) (H.stWs.lenV u64r) ?_
  refine L_want (by kernel_rfl) ?_
  refine L_i ((p : Int)) ((m.st.length : Int)) (.bool false) rfl rfl (by kernel_rfl) (by kernel_rfl) rfl (by first | (simp; done) | (simp; omega)) ?_
  refine L_g 1 (by kernel_rfl) ?_
  refine L_nil ?_
  refine W_cond false (by kernel_rfl) (fun e => by cases e) (fun _ => ?_)
  refine W_skip ?_
  refine W_seq ?_
  refine W_region ?_
  refine L_g 3 (by kernel_rfl) ?_
  refine L_ld _ rfl rfl (by kernel_rfl) (H.cl.ld (o := 0) (by kernel_rfl) rfl) ?_
  refine L_g 1 (by kernel_rfl) ?_
  refine L_ix _ rfl rfl (by kernel_rfl) (by kernel_rfl) (ei) ?_
  refine L_ld _ rfl rfl (by kernel_rfl) (el) ?_
  refine L_g 2 (by kernel_rfl) ?_
  refine L_nil ?_
  refine W_ret ?_
  repeat first | with_reducible refine then_ret ?_ | with_reducible refine blk_ret ?_
  refine done_of (v := .tuple ⟨[.int .i64 (m.at_ p), .int .i64 0]⟩) (.inl rfl) (by kernel_rfl) ?_
  rfl

theorem rstate_err {h : AH} {f : Nat} {V : RL → Value} {m : Rm} {p : Int} (H : RR h f V m) (he : p < 0 ∨ (m.st.length : Int) ≤ p) :
    Arm.Calls Tryz.prog 95 [ptr f, .int .i64 p] h (fun r => r = (.tuple ⟨[.int .i64 0, .int .i64 11]⟩, h)) := by
  have hcase : p < 0 ∨ (0 ≤ p ∧ (m.st.length : Int) ≤ p) := by omega
  refine Calls_of_W (n := 24) (fn := Tryz.f95) (by kernel_rfl) rfl rfl (Nat.le_of_ble_eq_true rfl) trivial ⟨.inr (by simp), rfl⟩ ?_
  refine W_seq ?_
  refine W_region ?_
  refine L_g 2 (by kernel_rfl) ?_
  refine L_nil ?_
  refine W_seq ?_
  refine W_seq ?_
  rcases hcase with hc | hc
  ·
    refine W_region ?_
    refine L_g 1 (by kernel_rfl) ?_
    refine L_i (p) (0) (.bool true) rfl rfl (by kernel_rfl) (by kernel_rfl) rfl (by first | (simp; done) | (simp; omega)) ?_
    refine L_g 9 (by kernel_rfl) ?_
    refine L_nil ?_
    refine W_cond true (by kernel_rfl) (fun _ => ?_) (fun e => by cases e)
    refine W_seq ?_
    refine W_region ?_
    refine L_g 2 (by kernel_rfl) ?_
    refine L_nil ?_
    refine W_ret ?_
    repeat first | with_reducible refine then_ret ?_ | with_reducible refine blk_ret ?_
    refine done_of (v := .tuple ⟨[.int .i64 0, .int .i64 11]⟩) (.inl rfl) (by kernel_rfl) ?_
    rfl
  ·
    refine W_region ?_
    refine L_g 1 (by kernel_rfl) ?_
    refine L_i (p) (0) (.bool false) rfl rfl (by kernel_rfl) (by kernel_rfl) rfl (by first | (simp; done) | (simp; omega)) ?_
    refine L_g 5 (by kernel_rfl) ?_
    refine L_want (by kernel_rfl) ?_
    refine L_ld _ rfl rfl (by kernel_rfl) (H.cl.ld (o := 0) (by kernel_rfl) rfl) ?_
    refine L_want (by kernel_rfl) ?_
    refine L_ln _ rfl rfl (by kernel_rfl) (H.stWs.lenV u64r) ?_
    refine L_want (by kernel_rfl) ?_
    refine L_i (p) ((m.st.length : Int)) (.bool true) rfl rfl (by kernel_rfl) (by kernel_rfl) rfl (by first | (simp; done) | (simp; omega)) ?_
    refine L_g 1 (by kernel_rfl) ?_
    refine L_nil ?_
    refine W_cond true (by kernel_rfl) (fun _ => ?_) (fun e => by cases e)
    refine W_seq ?_
    refine W_region ?_
    refine L_g 2 (by kernel_rfl) ?_
    refine L_nil ?_
    refine W_ret ?_
    repeat first | with_reducible refine then_ret ?_ | with_reducible refine blk_ret ?_
    refine done_of (v := .tuple ⟨[.int .i64 0, .int .i64 11]⟩) (.inl rfl) (by kernel_rfl) ?_
    rfl
theorem rpass_err {h : AH} {f : Nat} {V : RL → Value} {m : Rm} {p q v : Int} (H : RR h f V m) (he : chk2 m.st.length p q ≠ 0) :
    Arm.Calls Tryz.prog 37 [ptr f, .int .i64 p, .int .i64 q, .int .i64 v] h (fun r => r = (.int .i64 (chk2 m.st.length p q), h)) := by
  refine Calls_of_W (n := 50) (fn := Tryz.f37) (by kernel_rfl) rfl rfl (Nat.le_of_ble_eq_true rfl) trivial ⟨.inr (by simp), rfl⟩ ?_
  refine W_seq ?_
  refine W_region ?_
  refine L_g 1 (by kernel_rfl) ?_
  refine L_nil ?_
  refine W_seq ?_
  refine W_region ?_
  refine L_g 3 (by kernel_rfl) ?_
  refine L_c rfl rfl (by kernel_rfl) (way_ok (p := p) (q := q) H) ?_
  rintro v9 h9 e9
  cases e9
  refine L_g 1 (by kernel_rfl) ?_
  refine L_nil ?_
  refine W_seq ?_
  refine W_seq ?_
  refine W_region ?_
  refine L_g 1 (by kernel_rfl) ?_
  refine L_i ((chk2 m.st.length p q)) (0) (.bool true) rfl rfl (by kernel_rfl) (by kernel_rfl) rfl (by simp [he]) ?_
  refine L_nil ?_
  refine W_cond true (by kernel_rfl) (fun _ => ?_) (fun e => by cases e)
  refine W_seq ?_
  refine W_region ?_
  refine L_g 2 (by kernel_rfl) ?_
  refine L_nil ?_
  refine W_ret ?_
  repeat first | with_reducible refine then_ret ?_ | with_reducible refine blk_ret ?_
  refine done_of (v := .int .i64 (chk2 m.st.length p q)) (.inl rfl) (by kernel_rfl) ?_
  rfl
theorem rdlv_err {h : AH} {f : Nat} {V : RL → Value} {m : Rm} {p q : Int} (H : RR h f V m) (he : chk2 m.st.length p q ≠ 0) :
    Arm.Calls Tryz.prog 45 [ptr f, .int .i64 p, .int .i64 q] h (fun r => r = (.tuple ⟨[.bool false, .int .i64 (chk2 m.st.length p q)]⟩, h)) := by
  refine Calls_of_W (n := 144) (fn := Tryz.f45) (by kernel_rfl) rfl rfl (Nat.le_of_ble_eq_true rfl) trivial ⟨.inr (by simp), rfl⟩ ?_
  refine W_seq ?_
  refine W_region ?_
  refine L_g 2 (by kernel_rfl) ?_
  refine L_nil ?_
  refine W_seq ?_
  refine W_region ?_
  refine L_g 3 (by kernel_rfl) ?_
  refine L_c rfl rfl (by kernel_rfl) (way_ok (p := p) (q := q) H) ?_
  rintro v9 h9 e9
  cases e9
  refine L_g 1 (by kernel_rfl) ?_
  refine L_nil ?_
  refine W_seq ?_
  refine W_seq ?_
  refine W_region ?_
  refine L_g 1 (by kernel_rfl) ?_
  refine L_i ((chk2 m.st.length p q)) (0) (.bool true) rfl rfl (by kernel_rfl) (by kernel_rfl) rfl (by simp [he]) ?_
  refine L_nil ?_
  refine W_cond true (by kernel_rfl) (fun _ => ?_) (fun e => by cases e)
  refine W_seq ?_
  refine W_region ?_
  refine L_g 3 (by kernel_rfl) ?_
  refine L_nil ?_
  refine W_ret ?_
  repeat first | with_reducible refine then_ret ?_ | with_reducible refine blk_ret ?_
  refine done_of (v := .tuple ⟨[.bool false, .int .i64 (chk2 m.st.length p q)]⟩) (.inl rfl) (by kernel_rfl) ?_
  rfl
theorem runder_err {h : AH} {f : Nat} {V : RL → Value} {m : Rm} {p q : Int} (H : RR h f V m) (he : chk2 m.st.length p q ≠ 0) :
    Arm.Calls Tryz.prog 96 [ptr f, .int .i64 p, .int .i64 q] h (fun r => r = (.tuple ⟨[.slice none 0 0, .int .i64 (chk2 m.st.length p q)]⟩, h)) := by
  refine Calls_of_W (n := 66) (fn := Tryz.f96) (by kernel_rfl) rfl rfl (Nat.le_of_ble_eq_true rfl) trivial ⟨.inr (by simp), rfl⟩ ?_
  refine W_seq ?_
  refine W_region ?_
  refine L_g 2 (by kernel_rfl) ?_
  refine L_nil ?_
  refine W_seq ?_
  refine W_region ?_
  refine L_g 3 (by kernel_rfl) ?_
  refine L_c rfl rfl (by kernel_rfl) (way_ok (p := p) (q := q) H) ?_
  rintro v9 h9 e9
  cases e9
  refine L_g 1 (by kernel_rfl) ?_
  refine L_nil ?_
  refine W_seq ?_
  refine W_seq ?_
  refine W_region ?_
  refine L_g 1 (by kernel_rfl) ?_
  refine L_i ((chk2 m.st.length p q)) (0) (.bool true) rfl rfl (by kernel_rfl) (by kernel_rfl) rfl (by simp [he]) ?_
  refine L_nil ?_
  refine W_cond true (by kernel_rfl) (fun _ => ?_) (fun e => by cases e)
  refine W_seq ?_
  refine W_region ?_
  refine L_g 3 (by kernel_rfl) ?_
  refine L_nil ?_
  refine W_ret ?_
  repeat first | with_reducible refine then_ret ?_ | with_reducible refine blk_ret ?_
  refine done_of (v := .tuple ⟨[.slice none 0 0, .int .i64 (chk2 m.st.length p q)]⟩) (.inl rfl) (by kernel_rfl) ?_
  rfl
end
end Go.Proofs.YtdaedcoolcicoaaGreat
namespace Go.Proofs.YtdaedcoolcicoaaGreat
noncomputable section
open Go Go.X Go.Arm
theorem numsOf_snoc {l : List Th} {k : Nat} {x : Th} (hx : l[k]? = some x) : numsOf (l.take (k + 1)) = if thMark x then numsOf (l.take k) else numsOf (l.take k) ++ [thNum x] := by
  have hk := (List.getElem?_eq_some_iff.1 hx).1
  rw [List.take_succ_eq_append_getElem hk, numsOf_app]
  have : l[k] = x := by rw [List.getElem?_eq_getElem hk] at hx; exact Option.some.inj hx
  rw [this]
  cases x
  · rfl
  · simp [numsOf, thMark]
set_option maxHeartbeats 1000000 in
theorem runder_ok {h : AH} {f : Nat} {V : RL → Value} {m : Rm} {p q K : Nat} (H : RR h f V m) (hO : Rm.Ok m.st.length m) (hp : p < m.st.length) (hq : q < m.st.length) (hne : p ≠ q) (hle : m.le K) (hK : K < 400000000) :
    Arm.Calls Tryz.prog 96 [ptr f, .int .i64 p, .int .i64 q] h (fun r => ∃ u, r.1 = .tuple ⟨[u, .int .i64 0]⟩ ∧ Gr r.2 1 u (numsOf (m.w p q)).length ((numsOf (m.w p q)).map iv) ∧ Sm Nix h r.2) := by
  obtain ⟨pa, pb, ea, la, eb, lb⟩ := H.wAt (i := p) (j := q) (by rw [hO.sw]; exact hp) (by rw [hO.cw p hp]; exact hq)
  have G := H.wGr p q
  have hqK := hle p q
  generalize m.w p q = L at G hqK ⊢
  refine Calls_of_W (n := 66) (fn := Tryz.f96) (by kernel_rfl) rfl rfl (Nat.le_of_ble_eq_true rfl) trivial ⟨.inr (by simp), rfl⟩ ?_
  refine W_seq ?_
  refine W_region ?_
  refine L_g 2 (by kernel_rfl) ?_
  refine L_nil ?_
  refine W_seq ?_
  refine W_region ?_
  refine L_g 3 (by kernel_rfl) ?_
  refine L_c rfl rfl (by kernel_rfl) (way_ok (p := (p : Int)) (q := (q : Int)) H) ?_
  rintro v9 h9 e9
  cases e9
  rw [chk2_ok hp hq hne]
  refine L_g 1 (by kernel_rfl) ?_
  refine L_nil ?_
  refine W_seq ?_
  refine W_seq ?_
  refine W_region ?_
  refine L_g 2 (by kernel_rfl) ?_
  refine L_nil ?_
  refine W_cond false (by kernel_rfl) (fun e => by cases e) (fun _ => ?_)
  refine W_skip ?_
  refine W_seq ?_
  refine W_region ?_
  refine L_g 1 (by kernel_rfl) ?_
  refine L_nil ?_
  refine W_seq ?_
  refine W_seq ?_
  refine W_region ?_
  refine L_g 1 (by kernel_rfl) ?_
  refine L_nil ?_
  refine W_block ?_
  refine W_loop (fun i fr hh => ∃ k v9, k ≤ L.length ∧ i = L.length - k ∧ fr 0 = ptr f ∧ fr 1 = .int .i64 p ∧ fr 2 = .int .i64 q ∧ fr 9 = v9 ∧ fr 10 = .int .i64 k ∧ Sm Nix h hh ∧
        Gr hh 1 v9 (numsOf (L.take k)).length ((numsOf (L.take k)).map iv) ∧ ∀ b, vb v9 = some b → h.next ≤ b) (L.length) ?_ ?_
  ·
    exact ⟨0, .slice none 0 0, Nat.zero_le _, rfl, by kernel_rfl, by kernel_rfl, by kernel_rfl, by kernel_rfl, by kernel_rfl, .refl, Gr.nil, fun b hb => by cases hb⟩
  rintro i1 fr1 h2 ⟨k, v9, hk, hi1, y0, y1, y2, y9, y10, t2, g2, nb2⟩
  have H2 := H.ext t2
  have G2 := G.ext t2
  obtain ⟨pa2, pb2, ea2, la2, eb2, lb2⟩ := H2.wAt (i := p) (j := q) (by rw [hO.sw]; exact hp) (by rw [hO.cw p hp]; exact hq)
  obtain ⟨av, cv, ev⟩ := g2.sd.form
  subst ev
  refine W_set (k := 0) y0 ?_
  refine W_set (k := 1) y1 ?_
  refine W_set (k := 2) y2 ?_
  refine W_set (k := 9) y9 ?_
  refine W_set (k := 10) y10 ?_
  refine W_seq ?_
  refine W_seq ?_
  refine W_region ?_
  refine L_g 4 (by kernel_rfl) ?_
  refine L_ld _ rfl rfl (by kernel_rfl) (H2.cl.ld (o := 1) (by kernel_rfl) rfl) ?_
  refine L_g 1 (by kernel_rfl) ?_
  refine L_ix _ rfl rfl (by kernel_rfl) (by kernel_rfl) (ea2) ?_
  refine L_ld _ rfl rfl (by kernel_rfl) (la2) ?_
  refine L_g 1 (by kernel_rfl) ?_
  refine L_ix _ rfl rfl (by kernel_rfl) (by kernel_rfl) (eb2) ?_
  refine L_ld _ rfl rfl (by kernel_rfl) (lb2) ?_
  refine L_ln _ rfl rfl (by kernel_rfl) (G2.lenV u177) ?_
  refine L_i ((k : Int)) ((L.length : Nat)) (.bool (decide ((k : Int) < (L.length : Nat)))) rfl rfl (by kernel_rfl) (by kernel_rfl) rfl (rfl) ?_
  refine L_nil ?_
  refine W_cond (decide ((k : Int) < (L.length : Nat))) (by kernel_rfl) (fun hb => ?_) (fun hb => ?_)
  ·
    have hlt : k < L.length := by simp at hb; omega
    obtain ⟨b0, o0, x, ex, ei, e0, e1, _⟩ := thAt G2.sd hlt
    refine W_skip ?_
    refine W_seq ?_
    refine W_block ?_
    refine W_seq ?_
    refine W_region ?_
    refine L_g 3 (by kernel_rfl) ?_
    refine L_ld _ rfl rfl (by kernel_rfl) (H2.cl.ld (o := 1) (by kernel_rfl) rfl) ?_
    refine L_g 1 (by kernel_rfl) ?_
    refine L_ix _ rfl rfl (by kernel_rfl) (by kernel_rfl) (ea2) ?_
    refine L_ld _ rfl rfl (by kernel_rfl) (la2) ?_
    refine L_g 1 (by kernel_rfl) ?_
    refine L_ix _ rfl rfl (by kernel_rfl) (by kernel_rfl) (eb2) ?_
    refine L_ld _ rfl rfl (by kernel_rfl) (lb2) ?_
    refine L_g 1 (by kernel_rfl) ?_
    refine L_ix _ rfl rfl (by kernel_rfl) (by kernel_rfl) (ei) ?_
    refine L_g 1 (by kernel_rfl) ?_
    refine L_ld _ rfl rfl (by kernel_rfl) (e0) ?_
    refine L_g 1 (by kernel_rfl) ?_
    refine L_nil ?_
    refine W_cond (!thMark x) (by kernel_rfl) (fun hb => ?_) (fun hb => ?_)
    ·
      refine W_region ?_
      refine L_g 4 (by kernel_rfl) ?_
      refine L_ld _ rfl rfl (by kernel_rfl) (H2.cl.ld (o := 1) (by kernel_rfl) rfl) ?_
      refine L_g 1 (by kernel_rfl) ?_
      refine L_ix _ rfl rfl (by kernel_rfl) (by kernel_rfl) (ea2) ?_
      refine L_ld _ rfl rfl (by kernel_rfl) (la2) ?_
      refine L_g 1 (by kernel_rfl) ?_
      refine L_ix _ rfl rfl (by kernel_rfl) (by kernel_rfl) (eb2) ?_
      refine L_ld _ rfl rfl (by kernel_rfl) (lb2) ?_
      refine L_g 1 (by kernel_rfl) ?_
      refine L_ix _ rfl rfl (by kernel_rfl) (by kernel_rfl) (ei) ?_
      refine L_g 1 (by kernel_rfl) ?_
      refine L_ld _ rfl rfl (by kernel_rfl) (e1) ?_
      refine L_nw (.cells [Value.int .i64 (thNum x)]) (.sl 1 1) rfl rfl (by kernel_rfl) ?_
      have t3 : Sm Nix h2 (h2.push (Al.cells [Value.int .i64 (thNum x)]).obj) := .push h2 _
      have c3 : Cl (h2.push (Al.cells [Value.int .i64 (thNum x)]).obj) h2.next [Value.int .i64 (thNum x)] := Cl.new h2 _
      generalize h2.push (Al.cells [Value.int .i64 (thNum x)]).obj = h3 at t3 c3 ⊢
      have hln := numsOf_le (L.take k)
      rw [List.length_take] at hln
      obtain ⟨v', h4, e4, g4, t4, nb4⟩ := (g2.ext t3).append (P := Tryz.prog) (sT := 64) (xT := 64) (el := 2) (by_ := 8) (z := .int .i64 0) (m := 1) (ds := [Value.int .i64 (thNum x)]) (by kernel_rfl) (by kernel_rfl) (by kernel_rfl) (by kernel_rfl) (by kernel_rfl) (by kernel_rfl) (by decide) (c3.sd rfl) (fun x hx => by cases List.mem_singleton.1 hx; rfl) (by omega)
      refine L_bi v' h4 rfl rfl (by kernel_rfl) (vs := [Value.slice av (numsOf (L.take k)).length cv, Value.slice (some ⟨h2.next, 0, none⟩) 1 1]) (by kernel_rfl) (bi_append e4) ?_
      refine L_g 1 (by kernel_rfl) ?_
      refine L_nil ?_
      refine W_region ?_
      refine L_g 1 (by kernel_rfl) ?_
      refine L_i ((k : Int)) (1) (.int .i64 ((k + 1 : Nat) : Int)) rfl rfl (by kernel_rfl) (by kernel_rfl) rfl (inc_ok (by omega)) ?_
      refine L_g 1 (by kernel_rfl) ?_
      refine L_nil ?_
      have hT := numsOf_snoc ex
      rw [if_neg (by simpa using hb)] at hT
      refine ⟨L.length - (k + 1), by omega, k + 1, v', by omega, rfl, by kernel_rfl, by kernel_rfl, by kernel_rfl, by kernel_rfl, by kernel_rfl, (t2.ext t3).trans t4 (fun b hb => .inr (nb2 b hb)), ?_, fun b hb => ?_⟩
      · rw [hT]; simpa [iv] using g4
      · rcases nb4 b hb with hb | hb
        · exact nb2 b hb
        · have := t2.nx; have := t3.nx; omega
    ·
      refine W_skip ?_
      refine W_region ?_
      refine L_g 1 (by kernel_rfl) ?_
      refine L_i ((k : Int)) (1) (.int .i64 ((k + 1 : Nat) : Int)) rfl rfl (by kernel_rfl) (by kernel_rfl) rfl (inc_ok (by omega)) ?_
      refine L_g 1 (by kernel_rfl) ?_
      refine L_nil ?_
      have hT := numsOf_snoc ex
      rw [if_pos (by simpa using hb)] at hT
      refine ⟨L.length - (k + 1), by omega, k + 1, _, by omega, rfl, by kernel_rfl, by kernel_rfl, by kernel_rfl, by kernel_rfl, by kernel_rfl, t2, ?_, nb2⟩
      rw [hT]; exact g2
  ·
    have hge : k = L.length := by simp at hb; omega
    refine W_exit ?_
    repeat with_reducible refine then_exit ?_
    refine exit_here ?_
    refine W_seq ?_
    refine W_region ?_
    refine L_g 3 (by kernel_rfl) ?_
    refine L_nil ?_
    refine W_ret ?_
    repeat first | with_reducible refine then_ret ?_ | with_reducible refine blk_ret ?_
    refine done_of (v := .tuple ⟨[.slice av (numsOf (L.take k)).length cv, .int .i64 0]⟩) (.inl rfl) (by kernel_rfl) ?_
    subst hge
    refine ⟨_, rfl, ?_, t2⟩
    rw [List.take_length] at g2 ⊢
    exact g2
end
end Go.Proofs.YtdaedcoolcicoaaGreat
namespace Go.Proofs.YtdaedcoolcicoaaGreat
noncomputable section
open Go Go.X Go.Arm
theorem rpass_ok {h : AH} {f : Nat} {V : RL → Value} {m : Rm} {p q K : Nat} {v : Int} (H : RR h f V m) (hO : Rm.Ok m.st.length m) (hp : p < m.st.length) (hq : q < m.st.length) (hne : p ≠ q) (hle : m.le K) (hK : K < 400000000) :
    Arm.Calls Tryz.prog 37 [ptr f, .int .i64 p, .int .i64 q, .int .i64 v] h (fun r => r.1 = .int .i64 0 ∧ RP h f V (m.pass p q v) r.2) := by
  obtain ⟨ps, ei, el, es⟩ := H.stAt hp
  obtain ⟨h9, e9, H9, t9, n9⟩ := es (Fl.wr (m.at_ p - v))
  have hl := hle p q
  refine Calls_of_W (n := 50) (fn := Tryz.f37) (by kernel_rfl) rfl rfl (Nat.le_of_ble_eq_true rfl) trivial ⟨.inr (by simp), rfl⟩ ?_
  refine W_seq ?_
  refine W_region ?_
  refine L_g 1 (by kernel_rfl) ?_
  refine L_nil ?_
  refine W_seq ?_
  refine W_region ?_
  refine L_g 3 (by kernel_rfl) ?_
  refine L_c rfl rfl (by kernel_rfl) (way_ok (p := (p : Int)) (q := (q : Int)) H) ?_
  rintro v9 h9 e9
  cases e9
  rw [chk2_ok hp hq hne]
  refine L_g 1 (by kernel_rfl) ?_
  refine L_nil ?_
  refine W_seq ?_
  refine W_seq ?_
  refine W_region ?_
  refine L_g 2 (by kernel_rfl) ?_
  refine L_nil ?_
  refine W_cond false (by kernel_rfl) (fun e => by cases e) (fun _ => ?_)
  refine W_skip ?_
  refine W_seq ?_
  refine W_region ?_
  refine L_g 3 (by kernel_rfl) ?_
  refine L_ld _ rfl rfl (by kernel_rfl) (H.cl.ld (o := 0) (by kernel_rfl) rfl) ?_
  refine L_g 1 (by kernel_rfl) ?_
  refine L_ix _ rfl rfl (by kernel_rfl) (by kernel_rfl) (ei) ?_
  refine L_ld _ rfl rfl (by kernel_rfl) (el) ?_
  refine L_g 1 (by kernel_rfl) ?_
  refine L_i ((m.at_ p)) (v) (.int .i64 (Fl.wr (m.at_ p - v))) rfl rfl (by kernel_rfl) (by kernel_rfl) rfl (rfl) ?_
  refine L_ix _ rfl rfl (by kernel_rfl) (by kernel_rfl) (ei) ?_
  refine L_st _ rfl rfl rfl (by kernel_rfl) (by kernel_rfl) (e9) ?_
  refine L_nil ?_
  refine W_seq ?_
  skip
  ·
    have tp : Sm Nix h9 (h9.push (Al.cells [Value.bool false, Value.int .i64 v]).obj) := .push h9 _
    have np : (h9.push (Al.cells [Value.bool false, Value.int .i64 v]).obj).next = h9.next + 1 := rfl
    obtain ⟨pa, pb, v', h1, h2, ea, la, la0, la1, eb, lb, lb0, eA, cl0, cl1, eS, H2, t2, b2⟩ := H9.appW (i := p) (j := q) (by rw [hO.sw]; exact hp) (by rw [hO.cw p hp]; exact hq) (.num v) tp (u := .slice (some ⟨h9.next, 0, none⟩) 1 1) (sd2 (Cl.new h9 _)) (by show (m.w p q).length < _; omega)
    refine W_drawn (by kernel_rfl) ?_
    refine D_e (e := 21) (l := [0, 1, 2, 3, 4, 5, 6, 7, 8, 9, 10, 11, 12, 13, 14, 15, 16, 17, 18, 19, 20]) (s' := [0, 1, 2, 3, 4, 5, 6, 7]) (by kernel_rfl) (by kernel_rfl) rfl (by kernel_rfl) Rk_nil ?_
    refine NS_b 3 (by kernel_rfl) ?_
    refine NS_ld _ rfl rfl (by kernel_rfl) (by kernel_rfl) (by kernel_rfl) (H9.cl.ld (o := 1) (by kernel_rfl) rfl) ?_
    refine NS_b 1 (by kernel_rfl) ?_
    refine NS_ix _ rfl rfl (by kernel_rfl) (by kernel_rfl) (by kernel_rfl) (by kernel_rfl) (ea) ?_
    refine NS_ld _ rfl rfl (by kernel_rfl) (by kernel_rfl) (by kernel_rfl) (la) ?_
    refine NS_b 4 (by kernel_rfl) ?_
    refine NS_ld _ rfl rfl (by kernel_rfl) (by kernel_rfl) (by kernel_rfl) (H9.cl.ld (o := 1) (by kernel_rfl) rfl) ?_
    refine NS_b 1 (by kernel_rfl) ?_
    refine NS_ix _ rfl rfl (by kernel_rfl) (by kernel_rfl) (by kernel_rfl) (by kernel_rfl) (ea) ?_
    refine NS_ld _ rfl rfl (by kernel_rfl) (by kernel_rfl) (by kernel_rfl) (la) ?_
    refine NS_b 1 (by kernel_rfl) ?_
    refine NS_ix _ rfl rfl (by kernel_rfl) (by kernel_rfl) (by kernel_rfl) (by kernel_rfl) (eb) ?_
    refine NS_ld _ rfl rfl (by kernel_rfl) (by kernel_rfl) (by kernel_rfl) (lb) ?_
    refine NS_b 2 (by kernel_rfl) ?_
    refine NS_newR (Al.cells [Value.bool false, Value.int .i64 v]) (.sl 1 1) rfl (by kernel_rfl) rfl rfl (by kernel_rfl) (Rk_1 rfl rfl (Rk_1 rfl rfl (Rk_1 rfl rfl (Rk_ld _ rfl rfl rfl (by kernel_rfl) (cl0.ld (o := 1) (by kernel_rfl) rfl) (by kernel_rfl) (Rk_1 rfl rfl (Rk_1 rfl rfl (Rk_ld _ rfl rfl rfl (by kernel_rfl) (la0) (by kernel_rfl) (Rk_1 rfl rfl (Rk_1 rfl rfl (Rk_1 rfl rfl (Rk_1 rfl rfl (Rk_ld _ rfl rfl rfl (by kernel_rfl) (cl0.ld (o := 1) (by kernel_rfl) rfl) (by kernel_rfl) (Rk_1 rfl rfl (Rk_1 rfl rfl (Rk_ld _ rfl rfl rfl (by kernel_rfl) (la0) (by kernel_rfl) (Rk_1 rfl rfl (Rk_1 rfl rfl (Rk_ld _ rfl rfl rfl (by kernel_rfl) (lb0) (by kernel_rfl) (Rk_1 rfl rfl (Rk_1 rfl rfl (Rk_1 rfl rfl Rk_nil))))))))))))))))))))) ?_
    generalize h9.push (Al.cells [Value.bool false, Value.int .i64 v]).obj = hp at tp np la0 lb0 eA cl0
    refine NS_nil ?_
    refine L_bi v' h1 rfl rfl (by kernel_rfl) (vs := [V (.wc p q), .slice (some ⟨h9.next, 0, none⟩) 1 1]) (by kernel_rfl) (bi_append eA) ?_
    refine L_nil ⟨rfl, ?_⟩
    refine D_e (e := 23) (l := [22]) (s' := []) (by kernel_rfl) (by kernel_rfl) rfl (by kernel_rfl) (Rk_1 rfl rfl (Rk_1 rfl rfl (Rk_1 rfl rfl (Rk_ld _ rfl rfl rfl (by kernel_rfl) (cl1.ld (o := 1) (by kernel_rfl) rfl) (by kernel_rfl) (Rk_1 rfl rfl (Rk_1 rfl rfl (Rk_ld _ rfl rfl rfl (by kernel_rfl) (la1) (by kernel_rfl) (Rk_1 rfl rfl Rk_nil)))))))) ?_
    refine NS_ix _ rfl rfl (by kernel_rfl) (by kernel_rfl) (by kernel_rfl) (by kernel_rfl) (eb) ?_
    refine NS_nil ?_
    refine L_st _ rfl rfl rfl (by kernel_rfl) (by kernel_rfl) (eS) ?_
    refine L_nil ⟨rfl, ?_⟩
    refine D_l (l := []) (by kernel_rfl) (by kernel_rfl) Rk_nil ?_
    refine NS_nil ?_
    refine W_seq ?_
    refine W_region ?_
    refine L_g 1 (by kernel_rfl) ?_
    refine L_nil ?_
    refine W_ret ?_
    repeat first | with_reducible refine then_ret ?_ | with_reducible refine blk_ret ?_
    refine done_of (v := .int .i64 0) (.inl rfl) (by kernel_rfl) ?_
    refine ⟨rfl, _, H2, (t9.mono (fun b hb => .inr ⟨_, hb⟩)).trans t2 (fun b hb => .inl hb), fun b hb => ?_⟩
    rcases b2 b hb with e | e
    · exact .inl e
    · exact .inr (by omega)
end
end Go.Proofs.YtdaedcoolcicoaaGreat
namespace Go.Proofs.YtdaedcoolcicoaaGreat
noncomputable section
open Go Go.X Go.Arm
theorem rrec_ok {h : AH} {f : Nat} {V : RL → Value} {m : Rm} {p K : Nat} (H : RR h f V m) (hO : Rm.Ok m.st.length m) (hS : Rm.Sn m.st.length m) (hp : p < m.st.length) (hn : m.st.length < 1000000) (hle : m.le K) (hK : K < 400000000) :
    Arm.Calls Tryz.prog 94 [ptr f, .int .i64 p] h (fun r => r.1 = unit_ ∧ RP h f V (m.recd p) r.2) := by
  obtain ⟨pr, ri, rl, rs⟩ := H.rcAt (p := p) (by rw [hS.rc]; exact hp)
  obtain ⟨h3, e3, H3, t3, n3⟩ := rs true
  obtain ⟨ps, si, sl, _⟩ := H3.stAt (p := p) hp
  obtain ⟨pq, qi, ql, qs⟩ := H3.shAt (p := p) (by show p < m.sh.length; rw [hS.sh]; exact hp)
  obtain ⟨h4, e4, H4, t4, n4⟩ := qs (m.at_ p)
  have H4 : RR h4 f V (m.rec1 p) := H4
  have T4 : Sm (RF f V) h h4 := (t3.mono (fun b hb => .inr ⟨_, hb⟩)).then (t4.mono (fun b hb => .inr ⟨_, hb⟩))
  refine Calls_of_W (n := 58) (fn := Tryz.f94) (by kernel_rfl) rfl rfl (Nat.le_of_ble_eq_true rfl) trivial ⟨.inr (by simp), rfl⟩ ?_
  refine W_seq ?_
  refine W_region ?_
  refine L_g 3 (by kernel_rfl) ?_
  refine L_ld _ rfl rfl (by kernel_rfl) (H.cl.ld (o := 3) (by kernel_rfl) rfl) ?_
  refine L_g 1 (by kernel_rfl) ?_
  refine L_ix _ rfl rfl (by kernel_rfl) (by kernel_rfl) (ri) ?_
  refine L_st _ rfl rfl rfl (by kernel_rfl) (by kernel_rfl) (e3) ?_
  refine L_nil ?_
  refine W_seq ?_
  refine W_drawn (by kernel_rfl) ?_
  refine D_e (e := 13) (l := [0, 1, 2, 3, 4, 5, 6, 7, 8, 9, 10, 11, 12]) (s' := []) (by kernel_rfl) (by kernel_rfl) rfl (by kernel_rfl) Rk_nil ?_
  refine NS_b 3 (by kernel_rfl) ?_
  refine NS_ld _ rfl rfl (by kernel_rfl) (by kernel_rfl) (by kernel_rfl) (H3.cl.ld (o := 4) (by kernel_rfl) rfl) ?_
  refine NS_b 4 (by kernel_rfl) ?_
  refine NS_ld _ rfl rfl (by kernel_rfl) (by kernel_rfl) (by kernel_rfl) (H3.cl.ld (o := 0) (by kernel_rfl) rfl) ?_
  refine NS_b 1 (by kernel_rfl) ?_
  refine NS_ix _ rfl rfl (by kernel_rfl) (by kernel_rfl) (by kernel_rfl) (by kernel_rfl) (si) ?_
  refine NS_ld _ rfl rfl (by kernel_rfl) (by kernel_rfl) (by kernel_rfl) (sl) ?_
  refine NS_ix _ rfl rfl (by kernel_rfl) (by kernel_rfl) (by kernel_rfl) (by kernel_rfl) (qi) ?_
  refine NS_nil ?_
  refine L_st _ rfl rfl rfl (by kernel_rfl) (by kernel_rfl) (e4) ?_
  refine L_nil ⟨rfl, ?_⟩
  refine D_l (l := []) (by kernel_rfl) (by kernel_rfl) Rk_nil ?_
  refine NS_nil ?_
  refine W_seq ?_
  refine W_region ?_
  refine L_g 1 (by kernel_rfl) ?_
  refine L_nil ?_
  refine W_block ?_
  refine W_loop (fun i fr hh => ∃ k V5, k ≤ m.st.length ∧ i = m.st.length - k ∧ fr 0 = ptr f ∧ fr 1 = .int .i64 p ∧ fr 4 = .int .i64 k ∧ RR hh f V5 ((m.rec1 p).tell p k) ∧ Sm (RF f V) h hh ∧ ∀ b, RF f V5 b → RF f V b ∨ h.next ≤ b) (m.st.length) ?_ ?_
  ·
    exact ⟨0, V, Nat.zero_le _, rfl, by kernel_rfl, by kernel_rfl, by kernel_rfl, H4, T4, fun b hb => .inl hb⟩
  rintro i1 fr1 h5 ⟨k, V5, hk, hi1, y0, y1, y4, H5, T5, B5⟩
  have O5 : Rm.Ok m.st.length ((m.rec1 p).tell p k) := hO.rec1.tell p k
  have L5 : ((m.rec1 p).tell p k).le (K + 1) := Rm.le_tell (m := m.rec1 p) hle p k
  refine W_set (k := 0) y0 ?_
  refine W_set (k := 1) y1 ?_
  refine W_set (k := 4) y4 ?_
  refine W_seq ?_
  refine W_seq ?_
  refine W_region ?_
  refine L_g 4 (by kernel_rfl) ?_
  refine L_ld _ rfl rfl (by kernel_rfl) (H5.cl.ld (o := 0) (by kernel_rfl) rfl) ?_
  refine L_ln _ rfl rfl (by kernel_rfl) ((Ws.lenV (n := m.st.length) (by have := H5.stWs; rw [O5.st] at this; exact this) u64r)) ?_
  refine L_g 1 (by kernel_rfl) ?_
  refine L_nil ?_
  refine W_cond (decide ((k : Int) < (m.st.length : Nat))) (by kernel_rfl) (fun hb => ?_) (fun hb => ?_)
  ·
    have hlt : k < m.st.length := by simp at hb; omega
    refine W_skip ?_
    refine W_seq ?_
    refine W_block ?_
    refine W_seq ?_
    refine W_region ?_
    refine L_g 3 (by kernel_rfl) ?_
    refine L_nil ?_
    refine W_cond ((k : Int) != p) (by kernel_rfl) (fun hb => ?_) (fun hb => ?_)
    ·
      have hkp : ¬ k = p := by simp at hb; omega
      skip
      ·
        have tp : Sm Nix h5 (h5.push (Al.cells [Value.bool true, Value.int .i64 0]).obj) := .push h5 _
        have np : (h5.push (Al.cells [Value.bool true, Value.int .i64 0]).obj).next = h5.next + 1 := rfl
        obtain ⟨pa, pb, v', h1, h2, ea, la, la0, la1, eb, lb, lb0, eA, cl0, cl1, eS, H2, t2, b2⟩ := H5.appW (i := p) (j := k) (by rw [O5.sw]; exact hp) (by rw [O5.cw p hp]; omega) .mark tp (u := .slice (some ⟨h5.next, 0, none⟩) 1 1) (sd2 (Cl.new h5 _)) (by have := L5 p k; omega)
        refine W_drawn (by kernel_rfl) ?_
        refine D_e (e := 20) (l := [0, 1, 2, 3, 4, 5, 6, 7, 8, 9, 10, 11, 12, 13, 14, 15, 16, 17, 18, 19]) (s' := [0, 1, 2, 3, 4, 5, 6, 7]) (by kernel_rfl) (by kernel_rfl) rfl (by kernel_rfl) Rk_nil ?_
        refine NS_b 3 (by kernel_rfl) ?_
        refine NS_ld _ rfl rfl (by kernel_rfl) (by kernel_rfl) (by kernel_rfl) (H5.cl.ld (o := 1) (by kernel_rfl) rfl) ?_
        refine NS_b 1 (by kernel_rfl) ?_
        refine NS_ix _ rfl rfl (by kernel_rfl) (by kernel_rfl) (by kernel_rfl) (by kernel_rfl) (ea) ?_
        refine NS_ld _ rfl rfl (by kernel_rfl) (by kernel_rfl) (by kernel_rfl) (la) ?_
        refine NS_b 4 (by kernel_rfl) ?_
        refine NS_ld _ rfl rfl (by kernel_rfl) (by kernel_rfl) (by kernel_rfl) (H5.cl.ld (o := 1) (by kernel_rfl) rfl) ?_
        refine NS_b 1 (by kernel_rfl) ?_
        refine NS_ix _ rfl rfl (by kernel_rfl) (by kernel_rfl) (by kernel_rfl) (by kernel_rfl) (ea) ?_
        refine NS_ld _ rfl rfl (by kernel_rfl) (by kernel_rfl) (by kernel_rfl) (la) ?_
        refine NS_b 1 (by kernel_rfl) ?_
        refine NS_ix _ rfl rfl (by kernel_rfl) (by kernel_rfl) (by kernel_rfl) (by kernel_rfl) (eb) ?_
        refine NS_ld _ rfl rfl (by kernel_rfl) (by kernel_rfl) (by kernel_rfl) (lb) ?_
        refine NS_b 1 (by kernel_rfl) ?_
        refine NS_newR (Al.cells [Value.bool true, Value.int .i64 0]) (.sl 1 1) rfl (by kernel_rfl) rfl rfl (by kernel_rfl) (Rk_1 rfl rfl (Rk_1 rfl rfl (Rk_1 rfl rfl (Rk_ld _ rfl rfl rfl (by kernel_rfl) (cl0.ld (o := 1) (by kernel_rfl) rfl) (by kernel_rfl) (Rk_1 rfl rfl (Rk_1 rfl rfl (Rk_ld _ rfl rfl rfl (by kernel_rfl) (la0) (by kernel_rfl) (Rk_1 rfl rfl (Rk_1 rfl rfl (Rk_1 rfl rfl (Rk_1 rfl rfl (Rk_ld _ rfl rfl rfl (by kernel_rfl) (cl0.ld (o := 1) (by kernel_rfl) rfl) (by kernel_rfl) (Rk_1 rfl rfl (Rk_1 rfl rfl (Rk_ld _ rfl rfl rfl (by kernel_rfl) (la0) (by kernel_rfl) (Rk_1 rfl rfl (Rk_1 rfl rfl (Rk_ld _ rfl rfl rfl (by kernel_rfl) (lb0) (by kernel_rfl) (Rk_1 rfl rfl (Rk_1 rfl rfl Rk_nil)))))))))))))))))))) ?_
        generalize h5.push (Al.cells [Value.bool true, Value.int .i64 0]).obj = hp at tp np la0 lb0 eA cl0
        refine NS_nil ?_
        refine L_bi v' h1 rfl rfl (by kernel_rfl) (vs := [V5 (.wc p k), .slice (some ⟨h5.next, 0, none⟩) 1 1]) (by kernel_rfl) (bi_append eA) ?_
        refine L_nil ⟨rfl, ?_⟩
        refine D_e (e := 22) (l := [21]) (s' := []) (by kernel_rfl) (by kernel_rfl) rfl (by kernel_rfl) (Rk_1 rfl rfl (Rk_1 rfl rfl (Rk_1 rfl rfl (Rk_ld _ rfl rfl rfl (by kernel_rfl) (cl1.ld (o := 1) (by kernel_rfl) rfl) (by kernel_rfl) (Rk_1 rfl rfl (Rk_1 rfl rfl (Rk_ld _ rfl rfl rfl (by kernel_rfl) (la1) (by kernel_rfl) (Rk_1 rfl rfl Rk_nil)))))))) ?_
        refine NS_ix _ rfl rfl (by kernel_rfl) (by kernel_rfl) (by kernel_rfl) (by kernel_rfl) (eb) ?_
        refine NS_nil ?_
        refine L_st _ rfl rfl rfl (by kernel_rfl) (by kernel_rfl) (eS) ?_
        refine L_nil ⟨rfl, ?_⟩
        refine D_l (l := []) (by kernel_rfl) (by kernel_rfl) Rk_nil ?_
        refine NS_nil ?_
        refine W_region ?_
        refine L_g 1 (by kernel_rfl) ?_
        refine L_i ((k : Int)) (1) (.int .i64 ((k + 1 : Nat) : Int)) rfl rfl (by kernel_rfl) (by kernel_rfl) rfl (inc_ok (by omega)) ?_
        refine L_g 1 (by kernel_rfl) ?_
        refine L_nil ?_
        refine ⟨m.st.length - (k + 1), by omega, k + 1, _, by omega, rfl, by kernel_rfl, by kernel_rfl, by kernel_rfl, ?_, T5.trans t2 B5, fun b hb => (b2 b hb).elim (B5 b) (fun e => .inr (Nat.le_trans T5.nx e))⟩
        unfold Rm.tell; rw [if_neg hkp]; exact H2
    ·
      have hkp : k = p := by simp at hb; omega
      refine W_skip ?_
      refine W_region ?_
      refine L_g 1 (by kernel_rfl) ?_
      refine L_i ((k : Int)) (1) (.int .i64 ((k + 1 : Nat) : Int)) rfl rfl (by kernel_rfl) (by kernel_rfl) rfl (inc_ok (by omega)) ?_
      refine L_g 1 (by kernel_rfl) ?_
      refine L_nil ?_
      refine ⟨m.st.length - (k + 1), by omega, k + 1, _, by omega, rfl, by kernel_rfl, by kernel_rfl, by kernel_rfl, ?_, T5, B5⟩
      unfold Rm.tell; rw [if_pos hkp]; exact H5
  ·
    have hge : k = m.st.length := by simp at hb; omega
    refine W_exit ?_
    repeat with_reducible refine then_exit ?_
    refine exit_here ?_
    refine done_of (v := unit_) (.inr rfl) (by kernel_rfl) ?_
    subst hge
    exact ⟨rfl, V5, H5, T5, B5⟩
end
end Go.Proofs.YtdaedcoolcicoaaGreat
namespace Go.Proofs.YtdaedcoolcicoaaGreat
noncomputable section
open Go Go.X Go.Arm
set_option maxHeartbeats 1000000 in
theorem rdlv_nil {h : AH} {f : Nat} {V : RL → Value} {m : Rm} {p q : Nat} (H : RR h f V m) (hO : Rm.Ok m.st.length m) (hp : p < m.st.length) (hq : q < m.st.length) (hne : p ≠ q) (hw : m.w p q = []) :
    Arm.Calls Tryz.prog 45 [ptr f, .int .i64 p, .int .i64 q] h (fun r => r = (.tuple ⟨[.bool false, .int .i64 0]⟩, h)) := by
  obtain ⟨pa, pb, ea, la, eb, lb⟩ := H.wAt (i := p) (j := q) (by rw [hO.sw]; exact hp) (by rw [hO.cw p hp]; exact hq)
  have G := H.wGr p q
  rw [hw] at G
  refine Calls_of_W (n := 144) (fn := Tryz.f45) (by kernel_rfl) rfl rfl (Nat.le_of_ble_eq_true rfl) trivial ⟨.inr (by simp), rfl⟩ ?_
  refine W_seq ?_
  refine W_region ?_
  refine L_g 2 (by kernel_rfl) ?_
  refine L_nil ?_
  refine W_seq ?_
  refine W_region ?_
  refine L_g 3 (by kernel_rfl) ?_
  refine L_c rfl rfl (by kernel_rfl) (way_ok (p := (p : Int)) (q := (q : Int)) H) ?_
  rintro v9 h9 e9
  cases e9
  rw [chk2_ok hp hq hne]
  refine L_g 1 (by kernel_rfl) ?_
  refine L_nil ?_
  refine W_seq ?_
  refine W_seq ?_
  refine W_region ?_
  refine L_g 2 (by kernel_rfl) ?_
  refine L_nil ?_
  refine W_cond false (by kernel_rfl) (fun e => by cases e) (fun _ => ?_)
  refine W_skip ?_
  refine W_seq ?_
  refine W_seq ?_
  refine W_region ?_
  refine L_g 3 (by kernel_rfl) ?_
  refine L_ld _ rfl rfl (by kernel_rfl) (H.cl.ld (o := 1) (by kernel_rfl) rfl) ?_
  refine L_g 1 (by kernel_rfl) ?_
  refine L_ix _ rfl rfl (by kernel_rfl) (by kernel_rfl) (ea) ?_
  refine L_ld _ rfl rfl (by kernel_rfl) (la) ?_
  refine L_g 1 (by kernel_rfl) ?_
  refine L_ix _ rfl rfl (by kernel_rfl) (by kernel_rfl) (eb) ?_
  refine L_ld _ rfl rfl (by kernel_rfl) (lb) ?_
  refine L_ln _ rfl rfl (by kernel_rfl) (G.lenV u177) ?_
  refine L_i (0) (0) (.bool true) rfl rfl (by kernel_rfl) (by kernel_rfl) rfl (by simp) ?_
  refine L_nil ?_
  refine W_cond true (by kernel_rfl) (fun _ => ?_) (fun e => by cases e)
  refine W_seq ?_
  refine W_region ?_
  refine L_g 2 (by kernel_rfl) ?_
  refine L_nil ?_
  refine W_ret ?_
  repeat first | with_reducible refine then_ret ?_ | with_reducible refine blk_ret ?_
  refine done_of (v := .tuple ⟨[.bool false, .int .i64 0]⟩) (.inl rfl) (by kernel_rfl) ?_
  rfl
set_option maxHeartbeats 1000000 in
theorem rdlv_mark {h : AH} {f : Nat} {V : RL → Value} {m : Rm} {p q K : Nat} {r : List Th} (H : RR h f V m) (hO : Rm.Ok m.st.length m) (hp : p < m.st.length) (hq : q < m.st.length) (hne : p ≠ q) (hw : m.w p q = .mark :: r) (hS : Rm.Sn m.st.length m) (hn : m.st.length < 1000000) (hle : m.le K) (hK : K < 400000000) :
    Arm.Calls Tryz.prog 45 [ptr f, .int .i64 p, .int .i64 q] h (fun r => r.1 = .tuple ⟨[.bool true, .int .i64 0]⟩ ∧ RP h f V (m.dlv p q) r.2) := by
  obtain ⟨pa, pb, ea, la, eb, lb⟩ := H.wAt (i := p) (j := q) (by rw [hO.sw]; exact hp) (by rw [hO.cw p hp]; exact hq)
  have G := H.wGr p q
  rw [hw] at G
  obtain ⟨xb, xo, x, ex, xi, _, _, xl⟩ := thAt (l := Th.mark :: r) (i := 0) G.sd (Nat.succ_pos _)
  have ex : Th.mark = x := by simpa using ex
  have hlr : r.length < K + 1 := by have := hle p q; rw [hw, List.length_cons] at this; omega
  refine Calls_of_W (n := 144) (fn := Tryz.f45) (by kernel_rfl) rfl rfl (Nat.le_of_ble_eq_true rfl) trivial ⟨.inr (by simp), rfl⟩ ?_
  refine W_seq ?_
  refine W_region ?_
  refine L_g 2 (by kernel_rfl) ?_
  refine L_nil ?_
  refine W_seq ?_
  refine W_region ?_
  refine L_g 3 (by kernel_rfl) ?_
  refine L_c rfl rfl (by kernel_rfl) (way_ok (p := (p : Int)) (q := (q : Int)) H) ?_
  rintro v9 h9 e9
  cases e9
  rw [chk2_ok hp hq hne]
  refine L_g 1 (by kernel_rfl) ?_
  refine L_nil ?_
  refine W_seq ?_
  refine W_seq ?_
  refine W_region ?_
  refine L_g 2 (by kernel_rfl) ?_
  refine L_nil ?_
  refine W_cond false (by kernel_rfl) (fun e => by cases e) (fun _ => ?_)
  refine W_skip ?_
  refine W_seq ?_
  refine W_seq ?_
  refine W_region ?_
  refine L_g 3 (by kernel_rfl) ?_
  refine L_ld _ rfl rfl (by kernel_rfl) (H.cl.ld (o := 1) (by kernel_rfl) rfl) ?_
  refine L_g 1 (by kernel_rfl) ?_
  refine L_ix _ rfl rfl (by kernel_rfl) (by kernel_rfl) (ea) ?_
  refine L_ld _ rfl rfl (by kernel_rfl) (la) ?_
  refine L_g 1 (by kernel_rfl) ?_
  refine L_ix _ rfl rfl (by kernel_rfl) (by kernel_rfl) (eb) ?_
  refine L_ld _ rfl rfl (by kernel_rfl) (lb) ?_
  refine L_ln _ rfl rfl (by kernel_rfl) (G.lenV u177) ?_
  refine L_i (((Th.mark :: r).length : Nat)) (0) (.bool false) rfl rfl (by kernel_rfl) (by kernel_rfl) rfl (by simp; omega) ?_
  refine L_nil ?_
  refine W_cond false (by kernel_rfl) (fun e => by cases e) (fun _ => ?_)
  refine W_skip ?_
  refine W_seq ?_
  refine W_region ?_
  refine L_g 3 (by kernel_rfl) ?_
  refine L_ld _ rfl rfl (by kernel_rfl) (H.cl.ld (o := 1) (by kernel_rfl) rfl) ?_
  refine L_g 1 (by kernel_rfl) ?_
  refine L_ix _ rfl rfl (by kernel_rfl) (by kernel_rfl) (ea) ?_
  refine L_ld _ rfl rfl (by kernel_rfl) (la) ?_
  refine L_g 1 (by kernel_rfl) ?_
  refine L_ix _ rfl rfl (by kernel_rfl) (by kernel_rfl) (eb) ?_
  refine L_ld _ rfl rfl (by kernel_rfl) (lb) ?_
  refine L_ix _ rfl rfl (by kernel_rfl) (by kernel_rfl) (xi) ?_
  refine L_ld _ rfl rfl (by kernel_rfl) (xl) ?_
  refine L_nw (Al.cells [Value.bool false, Value.int .i64 0]) (.ptr) rfl rfl (by kernel_rfl) ?_
  have c6 : Cl (h.push (Al.cells [Value.bool false, Value.int .i64 0]).obj) h.next [Value.bool false, Value.int .i64 0] := Cl.new h _
  have t6 : Sm Nix h (h.push (Al.cells [Value.bool false, Value.int .i64 0]).obj) := .push h _
  have n6 : (h.push (Al.cells [Value.bool false, Value.int .i64 0]).obj).next = h.next + 1 := rfl
  generalize h.push (Al.cells [Value.bool false, Value.int .i64 0]).obj = h6 at c6 t6 n6 ⊢
  obtain ⟨h7, e7, c7, t7, n7⟩ := c6.storeS (P := Tryz.prog) (T := 183) (v := .agg ⟨[Value.bool (thMark x), Value.int .i64 (thNum x)]⟩) (cs := [Value.bool (thMark x), Value.int .i64 (thNum x)]) (by kernel_rfl) rfl rfl (fun y hy => by simp only [List.mem_cons, List.not_mem_nil, or_false] at hy; rcases hy with rfl | rfl <;> rfl)
  have T7 : Sm Nix h h7 := t6.trans t7 (fun y hy => .inr (by omega))
  have H7 := H.ext T7
  subst ex
  refine L_st _ rfl rfl rfl (by kernel_rfl) (by kernel_rfl) (e7) ?_
  refine L_nil ?_
  refine W_seq ?_
  skip
  ·
    have tp : Sm Nix h7 (h7.push (Al.cells []).obj) := .push h7 _
    have np : (h7.push (Al.cells []).obj).next = h7.next + 1 := rfl
    have HP := H7.ext tp
    obtain ⟨pa, pb, s', v', h1, h8, ea, la, la0, la1, eb, lb0, es, eA, cl0, cl1, eS, H8, t8, b8⟩ := H7.tailW (i := p) (j := q) (by rw [hO.sw]; exact hp) (by rw [hO.cw p hp]; exact hq) hw tp (b0 := h7.next) rfl (by omega) (by omega)
    refine W_drawn (by kernel_rfl) ?_
    refine D_e (e := 20) (l := [0, 1, 2, 3, 4, 5, 6, 7, 8, 9, 10, 11, 12, 13, 14, 15, 16, 17, 18, 19]) (s' := [0, 1, 2, 3, 4, 5, 6, 7]) (by kernel_rfl) (by kernel_rfl) rfl (by kernel_rfl) Rk_nil ?_
    refine NS_b 3 (by kernel_rfl) ?_
    refine NS_ld _ rfl rfl (by kernel_rfl) (by kernel_rfl) (by kernel_rfl) (H7.cl.ld (o := 1) (by kernel_rfl) rfl) ?_
    refine NS_b 1 (by kernel_rfl) ?_
    refine NS_ix _ rfl rfl (by kernel_rfl) (by kernel_rfl) (by kernel_rfl) (by kernel_rfl) (ea) ?_
    refine NS_ld _ rfl rfl (by kernel_rfl) (by kernel_rfl) (by kernel_rfl) (la) ?_
    refine NS_b 1 (by kernel_rfl) ?_
    refine NS_newR (Al.cells []) (.sl 0 0) rfl (by kernel_rfl) rfl rfl (by kernel_rfl) (Rk_1 rfl rfl (Rk_1 rfl rfl (Rk_1 rfl rfl (Rk_ld _ rfl rfl rfl (by kernel_rfl) (cl0.ld (o := 1) (by kernel_rfl) rfl) (by kernel_rfl) (Rk_1 rfl rfl (Rk_1 rfl rfl (Rk_ld _ rfl rfl rfl (by kernel_rfl) (la0) (by kernel_rfl) (Rk_1 rfl rfl (Rk_1 rfl rfl Rk_nil))))))))) ?_
    generalize h7.push (Al.cells []).obj = hp7 at tp np la0 lb0 es eA cl0 HP
    refine NS_b 3 (by kernel_rfl) ?_
    refine NS_ld _ rfl rfl (by kernel_rfl) (by kernel_rfl) (by kernel_rfl) (HP.cl.ld (o := 1) (by kernel_rfl) rfl) ?_
    refine NS_b 1 (by kernel_rfl) ?_
    refine NS_ix _ rfl rfl (by kernel_rfl) (by kernel_rfl) (by kernel_rfl) (by kernel_rfl) (ea) ?_
    refine NS_ld _ rfl rfl (by kernel_rfl) (by kernel_rfl) (by kernel_rfl) (la0) ?_
    refine NS_b 1 (by kernel_rfl) ?_
    refine NS_ix _ rfl rfl (by kernel_rfl) (by kernel_rfl) (by kernel_rfl) (by kernel_rfl) (eb) ?_
    refine NS_ld _ rfl rfl (by kernel_rfl) (by kernel_rfl) (by kernel_rfl) (lb0) ?_
    refine NS_sl _ rfl rfl (by kernel_rfl) (by kernel_rfl) (by kernel_rfl) (by kernel_rfl) (by kernel_rfl) (by kernel_rfl) (es) ?_
    refine NS_nil ?_
    refine L_bi v' h1 rfl rfl (by kernel_rfl) (vs := [.slice (some ⟨h7.next, 0, none⟩) 0 0, s']) (by kernel_rfl) (bi_append eA) ?_
    refine L_nil ⟨rfl, ?_⟩
    refine D_e (e := 22) (l := [21]) (s' := []) (by kernel_rfl) (by kernel_rfl) rfl (by kernel_rfl) (Rk_1 rfl rfl (Rk_1 rfl rfl (Rk_1 rfl rfl (Rk_ld _ rfl rfl rfl (by kernel_rfl) (cl1.ld (o := 1) (by kernel_rfl) rfl) (by kernel_rfl) (Rk_1 rfl rfl (Rk_1 rfl rfl (Rk_ld _ rfl rfl rfl (by kernel_rfl) (la1) (by kernel_rfl) (Rk_1 rfl rfl Rk_nil)))))))) ?_
    refine NS_ix _ rfl rfl (by kernel_rfl) (by kernel_rfl) (by kernel_rfl) (by kernel_rfl) (eb) ?_
    refine NS_nil ?_
    refine L_st _ rfl rfl rfl (by kernel_rfl) (by kernel_rfl) (eS) ?_
    have c8 := c7.sm t8 (fun e => by have := H.lt e; omega)
    have T8 : Sm (RF f V) h h8 := T7.of.trans t8 (fun b hb => .inl hb)
    have B8 : ∀ b, RF f (ups V (.wc p q) v') b → RF f V b ∨ h.next ≤ b := fun b hb => (b8 b hb).elim .inl (fun e => .inr (Nat.le_trans T7.nx e))
    generalize ups V (.wc p q) v' = V8 at H8 b8 B8
    refine L_nil ⟨rfl, ?_⟩
    refine D_l (l := []) (by kernel_rfl) (by kernel_rfl) Rk_nil ?_
    refine NS_nil ?_
    refine W_seq ?_
    refine W_seq ?_
    refine W_region ?_
    refine L_g 1 (by kernel_rfl) ?_
    refine L_ld _ rfl rfl (by kernel_rfl) (c8.ld (o := 0) (by kernel_rfl) rfl) ?_
    refine L_nil ?_
    refine W_cond true (by kernel_rfl) (fun _ => ?_) (fun e => by cases e)
    refine W_seq ?_
    refine W_seq ?_
    skip
    ·
      have S8 : Rm.Sn m.st.length (m.drop1 p q r) := hS.drop1
      have O8 : Rm.Ok m.st.length (m.drop1 p q r) := hO.drop1
      obtain ⟨pr, ri, rl, _⟩ := H8.rcAt (p := q) (by rw [S8.rc]; exact hq)
      refine W_region ?_
      refine L_g 3 (by kernel_rfl) ?_
      refine L_ld _ rfl rfl (by kernel_rfl) (H8.cl.ld (o := 3) (by kernel_rfl) rfl) ?_
      refine L_g 1 (by kernel_rfl) ?_
      refine L_ix _ rfl rfl (by kernel_rfl) (by kernel_rfl) (ri) ?_
      refine L_ld _ rfl rfl (by kernel_rfl) (rl) ?_
      refine L_g 1 (by kernel_rfl) ?_
      refine L_nil ?_
      refine W_cond (!(m.drop1 p q r).rcAt q) (by kernel_rfl) (fun hb => ?_) (fun hb => ?_)
      ·
        refine W_region ?_
        refine L_g 2 (by kernel_rfl) ?_
        refine L_c rfl rfl (by kernel_rfl) (rrec_ok H8 O8 S8 hq hn (K := K) (Rm.le_drop1 hle (by omega)) hK) ?_
        rintro v9 h9 ⟨e9, V9, H9, t9, b9⟩
        dsimp only at e9 H9 t9
        have S9 : Rm.Sn m.st.length ((m.drop1 p q r).recd q) := S8.recd
        refine L_nil ?_
        refine W_seq ?_
        skip
        ·
          obtain ⟨po, pp, oi, ol, oj, _, os⟩ := H9.oAt (i := p) (j := q) (by rw [S9.so]; exact hp) (by rw [S9.co p hp]; exact hq)
          obtain ⟨hA, eO, HA, tA, nA⟩ := os false
          refine W_region ?_
          refine L_g 3 (by kernel_rfl) ?_
          refine L_ld _ rfl rfl (by kernel_rfl) (H9.cl.ld (o := 5) (by kernel_rfl) rfl) ?_
          refine L_g 1 (by kernel_rfl) ?_
          refine L_ix _ rfl rfl (by kernel_rfl) (by kernel_rfl) (oi) ?_
          refine L_ld _ rfl rfl (by kernel_rfl) (ol) ?_
          refine L_g 1 (by kernel_rfl) ?_
          refine L_ix _ rfl rfl (by kernel_rfl) (by kernel_rfl) (oj) ?_
          refine L_st _ rfl rfl rfl (by kernel_rfl) (by kernel_rfl) (eO) ?_
          refine L_nil ?_
          refine W_seq ?_
          refine W_region ?_
          refine L_g 2 (by kernel_rfl) ?_
          refine L_nil ?_
          refine W_ret ?_
          repeat first | with_reducible refine then_ret ?_ | with_reducible refine blk_ret ?_
          refine done_of (v := .tuple ⟨[.bool true, .int .i64 0]⟩) (.inl rfl) (by kernel_rfl) ?_
          have hb : (m.drop1 p q r).rcAt q = false := by simpa using hb
          refine ⟨rfl, V9, ?_, (T8.trans t9 B8).trans tA (fun b hb => (b9 b (.inr ⟨_, hb⟩)).elim (B8 b) (fun e => .inr (Nat.le_trans T8.nx e))), fun b hb => (b9 b hb).elim (B8 b) (fun e => .inr (Nat.le_trans T8.nx e))⟩
          unfold Rm.dlv; rw [hw]; dsimp only; unfold Rm.arrM; rw [hb, if_neg (by decide)]; exact HA
      ·
        have H9 := H8
        have S9 := S8
        refine W_skip ?_
        refine W_seq ?_
        skip
        ·
          obtain ⟨po, pp, oi, ol, oj, _, os⟩ := H9.oAt (i := p) (j := q) (by rw [S9.so]; exact hp) (by rw [S9.co p hp]; exact hq)
          obtain ⟨hA, eO, HA, tA, nA⟩ := os false
          refine W_region ?_
          refine L_g 3 (by kernel_rfl) ?_
          refine L_ld _ rfl rfl (by kernel_rfl) (H9.cl.ld (o := 5) (by kernel_rfl) rfl) ?_
          refine L_g 1 (by kernel_rfl) ?_
          refine L_ix _ rfl rfl (by kernel_rfl) (by kernel_rfl) (oi) ?_
          refine L_ld _ rfl rfl (by kernel_rfl) (ol) ?_
          refine L_g 1 (by kernel_rfl) ?_
          refine L_ix _ rfl rfl (by kernel_rfl) (by kernel_rfl) (oj) ?_
          refine L_st _ rfl rfl rfl (by kernel_rfl) (by kernel_rfl) (eO) ?_
          refine L_nil ?_
          refine W_seq ?_
          refine W_region ?_
          refine L_g 2 (by kernel_rfl) ?_
          refine L_nil ?_
          refine W_ret ?_
          repeat first | with_reducible refine then_ret ?_ | with_reducible refine blk_ret ?_
          refine done_of (v := .tuple ⟨[.bool true, .int .i64 0]⟩) (.inl rfl) (by kernel_rfl) ?_
          have hb : (m.drop1 p q r).rcAt q = true := by simpa using hb
          refine ⟨rfl, V8, ?_, T8.trans tA (fun b hb => B8 b (.inr ⟨_, hb⟩)), B8⟩
          unfold Rm.dlv; rw [hw]; dsimp only; unfold Rm.arrM; rw [hb, if_pos rfl]; exact HA
end
end Go.Proofs.YtdaedcoolcicoaaGreat
namespace Go.Proofs.YtdaedcoolcicoaaGreat
noncomputable section
open Go Go.X Go.Arm
set_option maxHeartbeats 1000000 in
theorem rdlv_num {h : AH} {f : Nat} {V : RL → Value} {m : Rm} {p q K : Nat} {v : Int} {r : List Th} (H : RR h f V m) (hO : Rm.Ok m.st.length m) (hp : p < m.st.length) (hq : q < m.st.length) (hne : p ≠ q) (hw : m.w p q = .num v :: r) (hS : m.bg = true → Rm.Sn m.st.length m) (hle : m.le K) (hC : m.leC K) (hK : K < 400000000) :
    Arm.Calls Tryz.prog 45 [ptr f, .int .i64 p, .int .i64 q] h (fun r => r.1 = .tuple ⟨[.bool true, .int .i64 0]⟩ ∧ RP h f V (m.dlv p q) r.2) := by
  obtain ⟨pa, pb, ea, la, eb, lb⟩ := H.wAt (i := p) (j := q) (by rw [hO.sw]; exact hp) (by rw [hO.cw p hp]; exact hq)
  have G := H.wGr p q
  rw [hw] at G
  obtain ⟨xb, xo, x, ex, xi, _, _, xl⟩ := thAt (l := (Th.num v) :: r) (i := 0) G.sd (Nat.succ_pos _)
  have ex : (Th.num v) = x := by simpa using ex
  have hlr : r.length < K + 1 := by have := hle p q; rw [hw, List.length_cons] at this; omega
  refine Calls_of_W (n := 144) (fn := Tryz.f45) (by kernel_rfl) rfl rfl (Nat.le_of_ble_eq_true rfl) trivial ⟨.inr (by simp), rfl⟩ ?_
  refine W_seq ?_
  refine W_region ?_
  refine L_g 2 (by kernel_rfl) ?_
  refine L_nil ?_
  refine W_seq ?_
  refine W_region ?_
  refine L_g 3 (by kernel_rfl) ?_
  refine L_c rfl rfl (by kernel_rfl) (way_ok (p := (p : Int)) (q := (q : Int)) H) ?_
  rintro v9 h9 e9
  cases e9
  rw [chk2_ok hp hq hne]
  refine L_g 1 (by kernel_rfl) ?_
  refine L_nil ?_
  refine W_seq ?_
  refine W_seq ?_
  refine W_region ?_
  refine L_g 2 (by kernel_rfl) ?_
  refine L_nil ?_
  refine W_cond false (by kernel_rfl) (fun e => by cases e) (fun _ => ?_)
  refine W_skip ?_
  refine W_seq ?_
  refine W_seq ?_
  refine W_region ?_
  refine L_g 3 (by kernel_rfl) ?_
  refine L_ld _ rfl rfl (by kernel_rfl) (H.cl.ld (o := 1) (by kernel_rfl) rfl) ?_
  refine L_g 1 (by kernel_rfl) ?_
  refine L_ix _ rfl rfl (by kernel_rfl) (by kernel_rfl) (ea) ?_
  refine L_ld _ rfl rfl (by kernel_rfl) (la) ?_
  refine L_g 1 (by kernel_rfl) ?_
  refine L_ix _ rfl rfl (by kernel_rfl) (by kernel_rfl) (eb) ?_
  refine L_ld _ rfl rfl (by kernel_rfl) (lb) ?_
  refine L_ln _ rfl rfl (by kernel_rfl) (G.lenV u177) ?_
  refine L_i ((((Th.num v) :: r).length : Nat)) (0) (.bool false) rfl rfl (by kernel_rfl) (by kernel_rfl) rfl (by simp; omega) ?_
  refine L_nil ?_
  refine W_cond false (by kernel_rfl) (fun e => by cases e) (fun _ => ?_)
  refine W_skip ?_
  refine W_seq ?_
  refine W_region ?_
  refine L_g 3 (by kernel_rfl) ?_
  refine L_ld _ rfl rfl (by kernel_rfl) (H.cl.ld (o := 1) (by kernel_rfl) rfl) ?_
  refine L_g 1 (by kernel_rfl) ?_
  refine L_ix _ rfl rfl (by kernel_rfl) (by kernel_rfl) (ea) ?_
  refine L_ld _ rfl rfl (by kernel_rfl) (la) ?_
  refine L_g 1 (by kernel_rfl) ?_
  refine L_ix _ rfl rfl (by kernel_rfl) (by kernel_rfl) (eb) ?_
  refine L_ld _ rfl rfl (by kernel_rfl) (lb) ?_
  refine L_ix _ rfl rfl (by kernel_rfl) (by kernel_rfl) (xi) ?_
  refine L_ld _ rfl rfl (by kernel_rfl) (xl) ?_
  refine L_nw (Al.cells [Value.bool false, Value.int .i64 0]) (.ptr) rfl rfl (by kernel_rfl) ?_
  have c6 : Cl (h.push (Al.cells [Value.bool false, Value.int .i64 0]).obj) h.next [Value.bool false, Value.int .i64 0] := Cl.new h _
  have t6 : Sm Nix h (h.push (Al.cells [Value.bool false, Value.int .i64 0]).obj) := .push h _
  have n6 : (h.push (Al.cells [Value.bool false, Value.int .i64 0]).obj).next = h.next + 1 := rfl
  generalize h.push (Al.cells [Value.bool false, Value.int .i64 0]).obj = h6 at c6 t6 n6 ⊢
  obtain ⟨h7, e7, c7, t7, n7⟩ := c6.storeS (P := Tryz.prog) (T := 183) (v := .agg ⟨[Value.bool (thMark x), Value.int .i64 (thNum x)]⟩) (cs := [Value.bool (thMark x), Value.int .i64 (thNum x)]) (by kernel_rfl) rfl rfl (fun y hy => by simp only [List.mem_cons, List.not_mem_nil, or_false] at hy; rcases hy with rfl | rfl <;> rfl)
  have T7 : Sm Nix h h7 := t6.trans t7 (fun y hy => .inr (by omega))
  have H7 := H.ext T7
  subst ex
  refine L_st _ rfl rfl rfl (by kernel_rfl) (by kernel_rfl) (e7) ?_
  refine L_nil ?_
  refine W_seq ?_
  skip
  ·
    have tp : Sm Nix h7 (h7.push (Al.cells []).obj) := .push h7 _
    have np : (h7.push (Al.cells []).obj).next = h7.next + 1 := rfl
    have HP := H7.ext tp
    obtain ⟨pa, pb, s', v', h1, h8, ea, la, la0, la1, eb, lb0, es, eA, cl0, cl1, eS, H8, t8, b8⟩ := H7.tailW (i := p) (j := q) (by rw [hO.sw]; exact hp) (by rw [hO.cw p hp]; exact hq) hw tp (b0 := h7.next) rfl (by omega) (by omega)
    refine W_drawn (by kernel_rfl) ?_
    refine D_e (e := 20) (l := [0, 1, 2, 3, 4, 5, 6, 7, 8, 9, 10, 11, 12, 13, 14, 15, 16, 17, 18, 19]) (s' := [0, 1, 2, 3, 4, 5, 6, 7]) (by kernel_rfl) (by kernel_rfl) rfl (by kernel_rfl) Rk_nil ?_
    refine NS_b 3 (by kernel_rfl) ?_
    refine NS_ld _ rfl rfl (by kernel_rfl) (by kernel_rfl) (by kernel_rfl) (H7.cl.ld (o := 1) (by kernel_rfl) rfl) ?_
    refine NS_b 1 (by kernel_rfl) ?_
    refine NS_ix _ rfl rfl (by kernel_rfl) (by kernel_rfl) (by kernel_rfl) (by kernel_rfl) (ea) ?_
    refine NS_ld _ rfl rfl (by kernel_rfl) (by kernel_rfl) (by kernel_rfl) (la) ?_
    refine NS_b 1 (by kernel_rfl) ?_
    refine NS_newR (Al.cells []) (.sl 0 0) rfl (by kernel_rfl) rfl rfl (by kernel_rfl) (Rk_1 rfl rfl (Rk_1 rfl rfl (Rk_1 rfl rfl (Rk_ld _ rfl rfl rfl (by kernel_rfl) (cl0.ld (o := 1) (by kernel_rfl) rfl) (by kernel_rfl) (Rk_1 rfl rfl (Rk_1 rfl rfl (Rk_ld _ rfl rfl rfl (by kernel_rfl) (la0) (by kernel_rfl) (Rk_1 rfl rfl (Rk_1 rfl rfl Rk_nil))))))))) ?_
    generalize h7.push (Al.cells []).obj = hp7 at tp np la0 lb0 es eA cl0 HP
    refine NS_b 3 (by kernel_rfl) ?_
    refine NS_ld _ rfl rfl (by kernel_rfl) (by kernel_rfl) (by kernel_rfl) (HP.cl.ld (o := 1) (by kernel_rfl) rfl) ?_
    refine NS_b 1 (by kernel_rfl) ?_
    refine NS_ix _ rfl rfl (by kernel_rfl) (by kernel_rfl) (by kernel_rfl) (by kernel_rfl) (ea) ?_
    refine NS_ld _ rfl rfl (by kernel_rfl) (by kernel_rfl) (by kernel_rfl) (la0) ?_
    refine NS_b 1 (by kernel_rfl) ?_
    refine NS_ix _ rfl rfl (by kernel_rfl) (by kernel_rfl) (by kernel_rfl) (by kernel_rfl) (eb) ?_
    refine NS_ld _ rfl rfl (by kernel_rfl) (by kernel_rfl) (by kernel_rfl) (lb0) ?_
    refine NS_sl _ rfl rfl (by kernel_rfl) (by kernel_rfl) (by kernel_rfl) (by kernel_rfl) (by kernel_rfl) (by kernel_rfl) (es) ?_
    refine NS_nil ?_
    refine L_bi v' h1 rfl rfl (by kernel_rfl) (vs := [.slice (some ⟨h7.next, 0, none⟩) 0 0, s']) (by kernel_rfl) (bi_append eA) ?_
    refine L_nil ⟨rfl, ?_⟩
    refine D_e (e := 22) (l := [21]) (s' := []) (by kernel_rfl) (by kernel_rfl) rfl (by kernel_rfl) (Rk_1 rfl rfl (Rk_1 rfl rfl (Rk_1 rfl rfl (Rk_ld _ rfl rfl rfl (by kernel_rfl) (cl1.ld (o := 1) (by kernel_rfl) rfl) (by kernel_rfl) (Rk_1 rfl rfl (Rk_1 rfl rfl (Rk_ld _ rfl rfl rfl (by kernel_rfl) (la1) (by kernel_rfl) (Rk_1 rfl rfl Rk_nil)))))))) ?_
    refine NS_ix _ rfl rfl (by kernel_rfl) (by kernel_rfl) (by kernel_rfl) (by kernel_rfl) (eb) ?_
    refine NS_nil ?_
    refine L_st _ rfl rfl rfl (by kernel_rfl) (by kernel_rfl) (eS) ?_
    have c8 := c7.sm t8 (fun e => by have := H.lt e; omega)
    have T8 : Sm (RF f V) h h8 := T7.of.trans t8 (fun b hb => .inl hb)
    have B8 : ∀ b, RF f (ups V (.wc p q) v') b → RF f V b ∨ h.next ≤ b := fun b hb => (b8 b hb).elim .inl (fun e => .inr (Nat.le_trans T7.nx e))
    generalize ups V (.wc p q) v' = V8 at H8 b8 B8
    refine L_nil ⟨rfl, ?_⟩
    refine D_l (l := []) (by kernel_rfl) (by kernel_rfl) Rk_nil ?_
    refine NS_nil ?_
    refine W_seq ?_
    refine W_seq ?_
    refine W_region ?_
    refine L_g 1 (by kernel_rfl) ?_
    refine L_ld _ rfl rfl (by kernel_rfl) (c8.ld (o := 0) (by kernel_rfl) rfl) ?_
    refine L_nil ?_
    refine W_cond false (by kernel_rfl) (fun e => by cases e) (fun _ => ?_)
    refine W_skip ?_
    refine W_seq ?_
    skip
    ·
      obtain ⟨ps, si, sl, ss⟩ := H8.stAt (p := q) (by show q < m.st.length; exact hq)
      obtain ⟨h9, e9, H9, t9, n9⟩ := ss (Fl.wr (m.at_ q + v))
      have T9 : Sm (RF f V) h h9 := T8.trans t9 (fun b hb => B8 b (.inr ⟨_, hb⟩))
      have c9 := c8.sm t9 (fun e => by
        rcases b8 _ (.inr ⟨_, e⟩) with e | e
        · have := H.lt e; omega
        · have := T7.nx; omega)
      refine W_drawn (by kernel_rfl) ?_
      refine D_e (e := 11) (l := [0, 1, 2, 3, 4, 5, 6, 7, 8, 9, 10]) (s' := []) (by kernel_rfl) (by kernel_rfl) rfl (by kernel_rfl) Rk_nil ?_
      refine NS_b 3 (by kernel_rfl) ?_
      refine NS_ld _ rfl rfl (by kernel_rfl) (by kernel_rfl) (by kernel_rfl) (H8.cl.ld (o := 0) (by kernel_rfl) rfl) ?_
      refine NS_b 1 (by kernel_rfl) ?_
      refine NS_ix _ rfl rfl (by kernel_rfl) (by kernel_rfl) (by kernel_rfl) (by kernel_rfl) (si) ?_
      refine NS_ld _ rfl rfl (by kernel_rfl) (by kernel_rfl) (by kernel_rfl) (sl) ?_
      refine NS_b 1 (by kernel_rfl) ?_
      refine NS_ld _ rfl rfl (by kernel_rfl) (by kernel_rfl) (by kernel_rfl) (c8.ld (o := 1) (by kernel_rfl) rfl) ?_
      refine NS_i ((m.at_ q)) (v) (.int .i64 (Fl.wr (m.at_ q + v))) rfl rfl (by kernel_rfl) (by kernel_rfl) (by kernel_rfl) (by kernel_rfl) rfl (rfl) ?_
      refine NS_ix _ rfl rfl (by kernel_rfl) (by kernel_rfl) (by kernel_rfl) (by kernel_rfl) (si) ?_
      refine NS_nil ?_
      refine L_st _ rfl rfl rfl (by kernel_rfl) (by kernel_rfl) (e9) ?_
      refine L_nil ⟨rfl, ?_⟩
      refine D_l (l := []) (by kernel_rfl) (by kernel_rfl) Rk_nil ?_
      refine NS_nil ?_
      refine W_seq ?_
      refine W_seq ?_
      have hcase : m.bg = false ∨ (m.bg = true ∧ m.rcAt q = false) ∨ (m.bg = true ∧ m.rcAt q = true ∧ m.o p q = false) ∨ (m.bg = true ∧ m.rcAt q = true ∧ m.o p q = true) := by
        cases m.bg <;> cases m.rcAt q <;> cases m.o p q <;> simp
      have FS : ∀ (_ : m.bg = true), ∃ pr, aIndex Tryz.prog 32 (V8 .rc) (.int .i64 q) = some (.pointer (some pr)) ∧ aLoad Tryz.prog 4 pr h9 = some (.bool ((m.rc[q]?).getD false)) ∧
          ∃ po pp, aIndex Tryz.prog 157 (V8 .ot) (.int .i64 p) = some (.pointer (some po)) ∧ aLoad Tryz.prog 32 po h9 = some (V8 (.or p)) ∧ aIndex Tryz.prog 32 (V8 (.or p)) (.int .i64 q) = some (.pointer (some pp)) ∧ aLoad Tryz.prog 4 pp h9 = some (.bool (m.o p q)) := fun hbg => by
        have S9 := hS hbg
        obtain ⟨pr, ri, rl, _⟩ := H9.rcAt (p := q) (by show q < m.rc.length; rw [S9.rc]; exact hq)
        obtain ⟨po, pp, oi, ol, oj, oe, _⟩ := H9.oAt (i := p) (j := q) (by show p < m.so; rw [S9.so]; exact hp) (by show q < m.co p; rw [S9.co p hp]; exact hq)
        exact ⟨pr, ri, rl, po, pp, oi, ol, oj, oe⟩
      rcases hcase with hbg | ⟨hbg, hrc⟩ | ⟨hbg, hrc, hop⟩ | ⟨hbg, hrc, hop⟩
      ·

        refine W_region ?_
        refine L_g 3 (by kernel_rfl) ?_
        refine L_ld _ rfl rfl (by kernel_rfl) ((show aLoad Tryz.prog 4 ⟨f, 2, none⟩ h9 = some (.bool false) from by have := H9.cl.ld (P := Tryz.prog) (T := 4) (o := 2) (by kernel_rfl) rfl; rw [show (({ (m.drop1 p q r) with st := (m.drop1 p q r).st.set q (Fl.wr (m.at_ q + v)) } : Rm).bg) = false from hbg] at this; exact this)) ?_
        refine L_g 21 (by kernel_rfl) ?_
        refine L_nil ?_
        refine W_cond false (by kernel_rfl) (fun e => by cases e) (fun _ => ?_)
        refine W_skip ?_
        refine W_seq ?_
        refine W_region ?_
        refine L_g 2 (by kernel_rfl) ?_
        refine L_nil ?_
        refine W_ret ?_
        repeat first | with_reducible refine then_ret ?_ | with_reducible refine blk_ret ?_
        refine done_of (v := .tuple ⟨[.bool true, .int .i64 0]⟩) (.inl rfl) (by kernel_rfl) ?_
        refine ⟨rfl, V8, ?_, T9, B8⟩
        unfold Rm.dlv; rw [hw]; dsimp only; unfold Rm.arrN; dsimp only
        rw [if_neg (by show ¬ (m.bg && m.rcAt q && m.o p q) = true; simp [hbg])]; exact H9
      ·
        have S9 := hS hbg
        obtain ⟨pr, ri, rl, po, pp, oi, ol, oj, oe⟩ := FS hbg
        refine W_region ?_
        refine L_g 3 (by kernel_rfl) ?_
        refine L_ld _ rfl rfl (by kernel_rfl) ((show aLoad Tryz.prog 4 ⟨f, 2, none⟩ h9 = some (.bool true) from by have := H9.cl.ld (P := Tryz.prog) (T := 4) (o := 2) (by kernel_rfl) rfl; rw [show (({ (m.drop1 p q r) with st := (m.drop1 p q r).st.set q (Fl.wr (m.at_ q + v)) } : Rm).bg) = true from hbg] at this; exact this)) ?_
        refine L_g 4 (by kernel_rfl) ?_
        refine L_want (by kernel_rfl) ?_
        refine L_ld _ rfl rfl (by kernel_rfl) (H9.cl.ld (o := 3) (by kernel_rfl) rfl) ?_
        refine L_g 1 (by kernel_rfl) ?_
        refine L_want (by kernel_rfl) ?_
        refine L_ix _ rfl rfl (by kernel_rfl) (by kernel_rfl) (ri) ?_
        refine L_want (by kernel_rfl) ?_
        refine L_ld _ rfl rfl (by kernel_rfl) ((show aLoad Tryz.prog 4 pr h9 = some (.bool false) from by have := rl; rw [show (m.rc[q]?).getD false = false from hrc] at this; exact this)) ?_
        refine L_g 13 (by kernel_rfl) ?_
        refine L_nil ?_
        refine W_cond false (by kernel_rfl) (fun e => by cases e) (fun _ => ?_)
        refine W_skip ?_
        refine W_seq ?_
        refine W_region ?_
        refine L_g 2 (by kernel_rfl) ?_
        refine L_nil ?_
        refine W_ret ?_
        repeat first | with_reducible refine then_ret ?_ | with_reducible refine blk_ret ?_
        refine done_of (v := .tuple ⟨[.bool true, .int .i64 0]⟩) (.inl rfl) (by kernel_rfl) ?_
        refine ⟨rfl, V8, ?_, T9, B8⟩
        unfold Rm.dlv; rw [hw]; dsimp only; unfold Rm.arrN; dsimp only
        rw [if_neg (by show ¬ (m.bg && m.rcAt q && m.o p q) = true; simp [hbg, hrc])]; exact H9
      ·
        have S9 := hS hbg
        obtain ⟨pr, ri, rl, po, pp, oi, ol, oj, oe⟩ := FS hbg
        refine W_region ?_
        refine L_g 3 (by kernel_rfl) ?_
        refine L_ld _ rfl rfl (by kernel_rfl) ((show aLoad Tryz.prog 4 ⟨f, 2, none⟩ h9 = some (.bool true) from by have := H9.cl.ld (P := Tryz.prog) (T := 4) (o := 2) (by kernel_rfl) rfl; rw [show (({ (m.drop1 p q r) with st := (m.drop1 p q r).st.set q (Fl.wr (m.at_ q + v)) } : Rm).bg) = true from hbg] at this; exact this)) ?_
        refine L_g 4 (by kernel_rfl) ?_
        refine L_want (by kernel_rfl) ?_
        refine L_ld _ rfl rfl (by kernel_rfl) (H9.cl.ld (o := 3) (by kernel_rfl) rfl) ?_
        refine L_g 1 (by kernel_rfl) ?_
        refine L_want (by kernel_rfl) ?_
        refine L_ix _ rfl rfl (by kernel_rfl) (by kernel_rfl) (ri) ?_
        refine L_want (by kernel_rfl) ?_
        refine L_ld _ rfl rfl (by kernel_rfl) ((show aLoad Tryz.prog 4 pr h9 = some (.bool true) from by have := rl; rw [show (m.rc[q]?).getD false = true from hrc] at this; exact this)) ?_
        refine L_g 5 (by kernel_rfl) ?_
        refine L_want (by kernel_rfl) ?_
        refine L_ld _ rfl rfl (by kernel_rfl) (H9.cl.ld (o := 5) (by kernel_rfl) rfl) ?_
        refine L_g 1 (by kernel_rfl) ?_
        refine L_want (by kernel_rfl) ?_
        refine L_ix _ rfl rfl (by kernel_rfl) (by kernel_rfl) (oi) ?_
        refine L_want (by kernel_rfl) ?_
        refine L_ld _ rfl rfl (by kernel_rfl) (ol) ?_
        refine L_g 1 (by kernel_rfl) ?_
        refine L_want (by kernel_rfl) ?_
        refine L_ix _ rfl rfl (by kernel_rfl) (by kernel_rfl) (oj) ?_
        refine L_want (by kernel_rfl) ?_
        refine L_ld _ rfl rfl (by kernel_rfl) ((show aLoad Tryz.prog 4 pp h9 = some (.bool false) from by have := oe; rw [hop] at this; exact this)) ?_
        refine L_g 1 (by kernel_rfl) ?_
        refine L_nil ?_
        refine W_cond false (by kernel_rfl) (fun e => by cases e) (fun _ => ?_)
        refine W_skip ?_
        refine W_seq ?_
        refine W_region ?_
        refine L_g 2 (by kernel_rfl) ?_
        refine L_nil ?_
        refine W_ret ?_
        repeat first | with_reducible refine then_ret ?_ | with_reducible refine blk_ret ?_
        refine done_of (v := .tuple ⟨[.bool true, .int .i64 0]⟩) (.inl rfl) (by kernel_rfl) ?_
        refine ⟨rfl, V8, ?_, T9, B8⟩
        unfold Rm.dlv; rw [hw]; dsimp only; unfold Rm.arrN; dsimp only
        rw [if_neg (by show ¬ (m.bg && m.rcAt q && m.o p q) = true; simp [hbg, hrc, hop])]; exact H9
      ·
        have S9 := hS hbg
        obtain ⟨pr, ri, rl, po, pp, oi, ol, oj, oe⟩ := FS hbg
        refine W_region ?_
        refine L_g 3 (by kernel_rfl) ?_
        refine L_ld _ rfl rfl (by kernel_rfl) ((show aLoad Tryz.prog 4 ⟨f, 2, none⟩ h9 = some (.bool true) from by have := H9.cl.ld (P := Tryz.prog) (T := 4) (o := 2) (by kernel_rfl) rfl; rw [show (({ (m.drop1 p q r) with st := (m.drop1 p q r).st.set q (Fl.wr (m.at_ q + v)) } : Rm).bg) = true from hbg] at this; exact this)) ?_
        refine L_g 4 (by kernel_rfl) ?_
        refine L_want (by kernel_rfl) ?_
        refine L_ld _ rfl rfl (by kernel_rfl) (H9.cl.ld (o := 3) (by kernel_rfl) rfl) ?_
        refine L_g 1 (by kernel_rfl) ?_
        refine L_want (by kernel_rfl) ?_
        refine L_ix _ rfl rfl (by kernel_rfl) (by kernel_rfl) (ri) ?_
        refine L_want (by kernel_rfl) ?_
        refine L_ld _ rfl rfl (by kernel_rfl) ((show aLoad Tryz.prog 4 pr h9 = some (.bool true) from by have := rl; rw [show (m.rc[q]?).getD false = true from hrc] at this; exact this)) ?_
        refine L_g 5 (by kernel_rfl) ?_
        refine L_want (by kernel_rfl) ?_
        refine L_ld _ rfl rfl (by kernel_rfl) (H9.cl.ld (o := 5) (by kernel_rfl) rfl) ?_
        refine L_g 1 (by kernel_rfl) ?_
        refine L_want (by kernel_rfl) ?_
        refine L_ix _ rfl rfl (by kernel_rfl) (by kernel_rfl) (oi) ?_
        refine L_want (by kernel_rfl) ?_
        refine L_ld _ rfl rfl (by kernel_rfl) (ol) ?_
        refine L_g 1 (by kernel_rfl) ?_
        refine L_want (by kernel_rfl) ?_
        refine L_ix _ rfl rfl (by kernel_rfl) (by kernel_rfl) (oj) ?_
        refine L_want (by kernel_rfl) ?_
        refine L_ld _ rfl rfl (by kernel_rfl) ((show aLoad Tryz.prog 4 pp h9 = some (.bool true) from by have := oe; rw [hop] at this; exact this)) ?_
        refine L_g 1 (by kernel_rfl) ?_
        refine L_nil ?_
        refine W_cond true (by kernel_rfl) (fun _ => ?_) (fun e => by cases e)
        skip
        ·
          skip
          have tp : Sm Nix h9 (h9.push (Al.cells [Value.int .i64 v]).obj) := .push h9 _
          have np : (h9.push (Al.cells [Value.int .i64 v]).obj).next = h9.next + 1 := rfl
          obtain ⟨pa, pb, v', h1, h2, ea, la, la0, la1, eb, lb, lb0, eA, cl0, cl1, eS, H2, t2, b2⟩ := H9.appC (i := p) (j := q) (by show p < m.sc; rw [S9.sc]; exact hp) (by show q < m.cc p; rw [S9.cc p hp]; exact hq) v tp (u := .slice (some ⟨h9.next, 0, none⟩) 1 1) ((Cl.new h9 _).sd rfl) (by show (m.c p q).length < _; have := hC p q; omega)
          refine W_drawn (by kernel_rfl) ?_
          refine D_e (e := 21) (l := [0, 1, 2, 3, 4, 5, 6, 7, 8, 9, 10, 11, 12, 13, 14, 15, 16, 17, 18, 19, 20]) (s' := [0, 1, 2, 3, 4, 5, 6, 7]) (by kernel_rfl) (by kernel_rfl) rfl (by kernel_rfl) Rk_nil ?_
          refine NS_b 3 (by kernel_rfl) ?_
          refine NS_ld _ rfl rfl (by kernel_rfl) (by kernel_rfl) (by kernel_rfl) (H9.cl.ld (o := 6) (by kernel_rfl) rfl) ?_
          refine NS_b 1 (by kernel_rfl) ?_
          refine NS_ix _ rfl rfl (by kernel_rfl) (by kernel_rfl) (by kernel_rfl) (by kernel_rfl) (ea) ?_
          refine NS_ld _ rfl rfl (by kernel_rfl) (by kernel_rfl) (by kernel_rfl) (la) ?_
          refine NS_b 4 (by kernel_rfl) ?_
          refine NS_ld _ rfl rfl (by kernel_rfl) (by kernel_rfl) (by kernel_rfl) (H9.cl.ld (o := 6) (by kernel_rfl) rfl) ?_
          refine NS_b 1 (by kernel_rfl) ?_
          refine NS_ix _ rfl rfl (by kernel_rfl) (by kernel_rfl) (by kernel_rfl) (by kernel_rfl) (ea) ?_
          refine NS_ld _ rfl rfl (by kernel_rfl) (by kernel_rfl) (by kernel_rfl) (la) ?_
          refine NS_b 1 (by kernel_rfl) ?_
          refine NS_ix _ rfl rfl (by kernel_rfl) (by kernel_rfl) (by kernel_rfl) (by kernel_rfl) (eb) ?_
          refine NS_ld _ rfl rfl (by kernel_rfl) (by kernel_rfl) (by kernel_rfl) (lb) ?_
          refine NS_b 1 (by kernel_rfl) ?_
          refine NS_ld _ rfl rfl (by kernel_rfl) (by kernel_rfl) (by kernel_rfl) (c9.ld (o := 1) (by kernel_rfl) rfl) ?_
          refine NS_newR (Al.cells [Value.int .i64 v]) (.sl 1 1) rfl (by kernel_rfl) rfl rfl (by kernel_rfl) (Rk_1 rfl rfl (Rk_1 rfl rfl (Rk_1 rfl rfl (Rk_ld _ rfl rfl rfl (by kernel_rfl) (cl0.ld (o := 6) (by kernel_rfl) rfl) (by kernel_rfl) (Rk_1 rfl rfl (Rk_1 rfl rfl (Rk_ld _ rfl rfl rfl (by kernel_rfl) (la0) (by kernel_rfl) (Rk_1 rfl rfl (Rk_1 rfl rfl (Rk_1 rfl rfl (Rk_1 rfl rfl (Rk_ld _ rfl rfl rfl (by kernel_rfl) (cl0.ld (o := 6) (by kernel_rfl) rfl) (by kernel_rfl) (Rk_1 rfl rfl (Rk_1 rfl rfl (Rk_ld _ rfl rfl rfl (by kernel_rfl) (la0) (by kernel_rfl) (Rk_1 rfl rfl (Rk_1 rfl rfl (Rk_ld _ rfl rfl rfl (by kernel_rfl) (lb0) (by kernel_rfl) (Rk_1 rfl rfl (Rk_ld _ rfl rfl rfl (by kernel_rfl) ((c9.ext tp).ld (o := 1) (by kernel_rfl) rfl) (by kernel_rfl) (Rk_1 rfl rfl Rk_nil))))))))))))))))))))) ?_
          generalize h9.push (Al.cells [Value.int .i64 v]).obj = hp9 at tp np la0 lb0 eA cl0
          refine NS_nil ?_
          refine L_bi v' h1 rfl rfl (by kernel_rfl) (vs := [V8 (.cc p q), .slice (some ⟨h9.next, 0, none⟩) 1 1]) (by kernel_rfl) (bi_append eA) ?_
          refine L_nil ⟨rfl, ?_⟩
          refine D_e (e := 23) (l := [22]) (s' := []) (by kernel_rfl) (by kernel_rfl) rfl (by kernel_rfl) (Rk_1 rfl rfl (Rk_1 rfl rfl (Rk_1 rfl rfl (Rk_ld _ rfl rfl rfl (by kernel_rfl) (cl1.ld (o := 6) (by kernel_rfl) rfl) (by kernel_rfl) (Rk_1 rfl rfl (Rk_1 rfl rfl (Rk_ld _ rfl rfl rfl (by kernel_rfl) (la1) (by kernel_rfl) (Rk_1 rfl rfl Rk_nil)))))))) ?_
          refine NS_ix _ rfl rfl (by kernel_rfl) (by kernel_rfl) (by kernel_rfl) (by kernel_rfl) (eb) ?_
          refine NS_nil ?_
          refine L_st _ rfl rfl rfl (by kernel_rfl) (by kernel_rfl) (eS) ?_
          refine L_nil ⟨rfl, ?_⟩
          refine D_l (l := []) (by kernel_rfl) (by kernel_rfl) Rk_nil ?_
          refine NS_nil ?_
          refine W_seq ?_
          refine W_region ?_
          refine L_g 2 (by kernel_rfl) ?_
          refine L_nil ?_
          refine W_ret ?_
          repeat first | with_reducible refine then_ret ?_ | with_reducible refine blk_ret ?_
          refine done_of (v := .tuple ⟨[.bool true, .int .i64 0]⟩) (.inl rfl) (by kernel_rfl) ?_
          refine ⟨rfl, _, ?_, T9.trans t2 B8, fun b hb => (b2 b hb).elim (B8 b) (fun e => .inr (Nat.le_trans T9.nx e))⟩
          unfold Rm.dlv; rw [hw]; dsimp only; unfold Rm.arrN; dsimp only
          rw [if_pos (by show (m.bg && m.rcAt q && m.o p q) = true; rw [hbg, hrc, hop]; rfl)]; exact H2
end
end Go.Proofs.YtdaedcoolcicoaaGreat
namespace Go.Proofs.YtdaedcoolcicoaaGreat
noncomputable section
open Go Go.X Go.Arm
theorem u159 : aggT Tryz.prog 159 7 = true := by kernel_rfl
section
variable {h h' h0 : AH} {f n : Nat} {V : RL → Value} {m : Rm} {v : Value} {S : Nat → Prop}
/-- A flow is seen otherwise. -/
theorem _root_.Go.Arm.RR.congr (H : RR h f V m) {m' : Rm} (h1 : m'.bg = m.bg) (h2 : m'.nn = m.nn) (h3 : Rm.cont V m' = Rm.cont V m) : RR h f V m' := ⟨by rw [h1]; exact H.cl, by rw [h2, h3]; exact H.lay, H.me⟩
theorem zrep_one (n : Nat) (x : Value) : zrep n [x] = (List.range n).map fun _ => x := by
  induction n with
  | zero => rfl
  | succ n ih =>
    show [x] ++ zrep n [x] = _
    rw [ih, List.range_succ_eq_map, List.map_cons, List.map_map]
    rfl
theorem nil_vb {b : Nat} : vb (Value.slice none 0 0) ≠ some b := fun e => by cases e
def rm0 (bg : Bool) : Rm := ⟨[], bg, [], [], 0, fun _ => 0, fun _ _ => [], 0, fun _ => 0, fun _ _ => false, 0, fun _ => 0, fun _ _ => []⟩
def V0_ : RL → Value := fun _ => .slice none 0 0
theorem RR.init {b : Bool} (c : Cl h f [.slice none 0 0, .slice none 0 0, .bool b, .slice none 0 0, .slice none 0 0, .slice none 0 0, .slice none 0 0]) : RR h f V0_ (rm0 b) := by
  refine ⟨c, ⟨fun r => ?_, fun r r' b e => (nil_vb e).elim⟩, fun r => nil_vb⟩
  have : (Rm.cont V0_ (rm0 b) r) = [] := by cases r <;> rfl
  rw [this]
  have : (rm0 b).nn r = 0 := by cases r <;> rfl
  rw [this]
  exact Gw.nil
/-- A list is set anew. -/
theorem _root_.Go.Arm.RR.newSt (H : RR h f V m) {l : List Int} (G : Ws h 1 v l.length (l.map nv)) (hv : ∀ b, vb v = some b → ¬ RF f V b) :
    ∃ h', aStore Tryz.prog 64 ⟨f, 0, none⟩ v h = some h' ∧ RR h' f (ups V .st v) { m with st := l } ∧ Sm (fun b => b = f) h h' ∧ h'.next = h.next := by
  obtain ⟨h', e, c, t, nx⟩ := H.cl.store (P := Tryz.prog) (T := 64) (o := 0) (v := v) (by kernel_rfl) (oneS G.sd).1 (oneS G.sd).2 (by simp)
  refine ⟨h', e, ⟨?_, ?_, ?_⟩, t, nx⟩
  · exact c
  · have L := H.lay.put .st (v := v) t (fun r' _ b hb e => by subst e; exact H.me _ hb) (show Gw false h' 1 v l.length (l.map nv) from G.sm t (fun b hb e => hv b hb (.inl e))) (fun r' hr b hb e => hv b e (.inr ⟨_, hb⟩))
    refine L.eq rfl ?_ ?_
    · funext r; cases r <;> simp [ups, Rm.nn]
    · funext r; cases r <;> simp [ups, Rm.cont]
  · intro r
    by_cases hr : r = .st
    · subst hr; rw [ups_at]; exact fun e => hv f e (.inl rfl)
    · rw [ups_ne _ _ hr]; exact H.me _
/-- A list is set anew. -/
theorem _root_.Go.Arm.RR.newRc (H : RR h f V m) {l : List Bool} (G : Ws h 1 v l.length (l.map bw)) (hv : ∀ b, vb v = some b → ¬ RF f V b) :
    ∃ h', aStore Tryz.prog 32 ⟨f, 3, none⟩ v h = some h' ∧ RR h' f (ups V .rc v) { m with rc := l } ∧ Sm (fun b => b = f) h h' ∧ h'.next = h.next := by
  obtain ⟨h', e, c, t, nx⟩ := H.cl.store (P := Tryz.prog) (T := 32) (o := 3) (v := v) (by kernel_rfl) (oneS G.sd).1 (oneS G.sd).2 (by simp)
  refine ⟨h', e, ⟨?_, ?_, ?_⟩, t, nx⟩
  · exact c
  · have L := H.lay.put .rc (v := v) t (fun r' _ b hb e => by subst e; exact H.me _ hb) (show Gw false h' 1 v l.length (l.map bw) from G.sm t (fun b hb e => hv b hb (.inl e))) (fun r' hr b hb e => hv b e (.inr ⟨_, hb⟩))
    refine L.eq rfl ?_ ?_
    · funext r; cases r <;> simp [ups, Rm.nn]
    · funext r; cases r <;> simp [ups, Rm.cont]
  · intro r
    by_cases hr : r = .rc
    · subst hr; rw [ups_at]; exact fun e => hv f e (.inl rfl)
    · rw [ups_ne _ _ hr]; exact H.me _
/-- A list is set anew. -/
theorem _root_.Go.Arm.RR.newSh (H : RR h f V m) {l : List Int} (G : Ws h 1 v l.length (l.map nv)) (hv : ∀ b, vb v = some b → ¬ RF f V b) :
    ∃ h', aStore Tryz.prog 64 ⟨f, 4, none⟩ v h = some h' ∧ RR h' f (ups V .sh v) { m with sh := l } ∧ Sm (fun b => b = f) h h' ∧ h'.next = h.next := by
  obtain ⟨h', e, c, t, nx⟩ := H.cl.store (P := Tryz.prog) (T := 64) (o := 4) (v := v) (by kernel_rfl) (oneS G.sd).1 (oneS G.sd).2 (by simp)
  refine ⟨h', e, ⟨?_, ?_, ?_⟩, t, nx⟩
  · exact c
  · have L := H.lay.put .sh (v := v) t (fun r' _ b hb e => by subst e; exact H.me _ hb) (show Gw false h' 1 v l.length (l.map nv) from G.sm t (fun b hb e => hv b hb (.inl e))) (fun r' hr b hb e => hv b e (.inr ⟨_, hb⟩))
    refine L.eq rfl ?_ ?_
    · funext r; cases r <;> simp [ups, Rm.nn]
    · funext r; cases r <;> simp [ups, Rm.cont]
  · intro r
    by_cases hr : r = .sh
    · subst hr; rw [ups_at]; exact fun e => hv f e (.inl rfl)
    · rw [ups_ne _ _ hr]; exact H.me _
/-- One more row. -/
theorem _root_.Go.Arm.RR.rowW (H : RR h f V m) {row : Value} (G : Ws h 1 row n ((List.range n).map fun j => V (.wc m.sw j))) (hv : ∀ b, vb row = some b → ¬ RF f V b) (t : Sm Nix h h0) {u : Value} (hu : Sd h0 1 u 1 [row]) (hl : m.sw < 1000000000) :
    ∃ v' h1 h2, aAppend Tryz.prog 156 156 (V .wt) u h0 = some (v', h1) ∧ Cl h0 f [V .st, V .wt, .bool m.bg, V .rc, V .sh, V .ot, V .ct] ∧ Cl h1 f [V .st, V .wt, .bool m.bg, V .rc, V .sh, V .ot, V .ct] ∧ Sm (fun b => vb (V .wt) = some b) h0 h1 ∧
      aStore Tryz.prog 156 ⟨f, 1, none⟩ v' h1 = some h2 ∧ RR h2 f (ups (ups V (.wr m.sw) row) .wt v') { m with sw := m.sw + 1, cw := ups m.cw m.sw n } ∧
      Sm (fun b => b = f ∨ vb (V .wt) = some b) h h2 ∧ ∀ b, RF f (ups (ups V (.wr m.sw) row) .wt v') b → RF f V b ∨ h0.next ≤ b ∨ vb row = some b := by
  have G0 : Gr h0 1 (V .wt) m.sw ((List.range m.sw).map fun i => V (.wr i)) := Gr.ext (H.lay.gr .wt) t
  obtain ⟨v', h1, e1, g1, s1, n1⟩ := G0.append (P := Tryz.prog) (sT := 156) (xT := 156) (el := 160) (by_ := 24) (z := .slice none 0 0) (m := 1) (ds := [row]) (by kernel_rfl) (by kernel_rfl) (by kernel_rfl) (by kernel_rfl) (by kernel_rfl) (by kernel_rfl) (by decide) hu (fun y hy => by cases List.mem_singleton.1 hy; exact (oneS G.sd).2) (by omega)
  have c0 := H.cl.ext t
  have c1 := c0.sm s1 (H.me _)
  obtain ⟨h2, e2, c2, t2, nx2⟩ := c1.store (P := Tryz.prog) (T := 156) (o := 1) (v := v') (by kernel_rfl) (oneS g1.sd).1 (oneS g1.sd).2 (by simp)
  have L0 := H.lay.ext t
  have L1 := L0.put (.wr m.sw) (v := row) (m := n) (c := (List.range n).map fun j => V (.wc m.sw j)) (Sm.refl (S := Nix)) (fun _ _ _ _ x => x) (show Gw false h0 1 row _ _ from G.ext t) (fun r' _ b hb e => hv b e (.inr ⟨_, hb⟩))
  have s12 : Sm (fun b => b = f ∨ vb (V .wt) = some b) h0 h2 := (s1.mono fun b hb => .inr hb).then (t2.mono fun b hb => .inl hb)
  have fresh : ∀ r' b, vb (ups V (.wr m.sw) row r') = some b → r' ≠ .wt → vb v' ≠ some b := fun r' b hb hr e => by
    rcases n1 b e with x | x
    · have hj := L1.inj .wt r' b (by rw [ups_ne _ _ (by simp)]; exact x) hb
      exact hr hj.symm
    · have := L1.lt hb; omega
  have ok : ∀ r' b, vb (ups V (.wr m.sw) row r') = some b → r' ≠ .wt → ¬ (b = f ∨ vb (V .wt) = some b) := fun r' b hb hr e => by
    rcases e with rfl | e
    · by_cases h9 : r' = .wr m.sw
      · subst h9; rw [ups_at] at hb; exact hv _ hb (.inl rfl)
      · rw [ups_ne _ _ h9] at hb; exact H.me _ hb
    · exact hr (L1.inj .wt r' b (by rw [ups_ne _ _ (by simp)]; exact e) hb).symm
  have L2 := L1.put .wt (v := v') (m := m.sw + 1) (c := ((List.range m.sw).map fun i => V (.wr i)) ++ [row]) s12 (fun r' hr b hb => ok r' b hb hr) (show Gw true h2 1 v' _ _ from g1.sm t2 (fun b hb e => by
    subst e
    rcases n1 b hb with x | x
    · exact H.me _ x
    · have := c0.lt; omega)) (fun r' hr b hb => fresh r' b hb hr)
  refine ⟨v', h1, h2, e1, c0, c1, s1, e2, ⟨?_, L2.eq rfl ?_ ?_, ?_⟩, s12.mono (fun _ x => x) |> fun s => t.of.trans s (fun _ x => .inl x), fun b hb => ?_⟩
  · have : [V .st, V .wt, .bool m.bg, V .rc, V .sh, V .ot, V .ct].set 1 v' = [ups (ups V (.wr m.sw) row) .wt v' .st, ups (ups V (.wr m.sw) row) .wt v' .wt, .bool m.bg, ups (ups V (.wr m.sw) row) .wt v' .rc, ups (ups V (.wr m.sw) row) .wt v' .sh, ups (ups V (.wr m.sw) row) .wt v' .ot, ups (ups V (.wr m.sw) row) .wt v' .ct] := by simp [ups]
    show Cl h2 f [_, _, _, _, _, _, _]
    rw [← this]; exact c2
  · funext r
    cases r with
    | wr i =>
      by_cases hi : i = m.sw
      · subst hi; simp [ups, Rm.nn]
      · simp [ups, Rm.nn, hi]
    | _ => simp [ups, Rm.nn]
  · funext r
    cases r with
    | wt =>
      rw [ups_at]
      show (List.range (m.sw + 1)).map _ = _
      rw [List.range_succ, List.map_append]
      refine congr (congrArg _ (List.map_congr_left fun i hi => ?_)) ?_
      · have : i ≠ m.sw := by have := List.mem_range.1 hi; omega
        simp [ups, this]
      · simp [ups]
    | wr i =>
      by_cases hi : i = m.sw
      · subst hi
        simp [ups, Rm.cont]
      · simp [ups, Rm.cont, hi]
    | _ => simp [ups, Rm.cont]
  · intro r
    by_cases hr : r = .wt
    · subst hr; rw [ups_at]
      intro e
      rcases n1 _ e with x | x
      · exact H.me _ x
      · have := c0.lt; omega
    · rw [ups_ne _ _ hr]
      by_cases h9 : r = .wr m.sw
      · subst h9; rw [ups_at]; exact fun e => hv _ e (.inl rfl)
      · rw [ups_ne _ _ h9]; exact H.me _
  · rcases hb with e | ⟨r, e⟩
    · exact .inl (.inl e)
    · by_cases hr : r = .wt
      · subst hr; rw [ups_at] at e
        rcases n1 _ e with x | x
        · exact .inl (.inr ⟨_, x⟩)
        · exact .inr (.inl x)
      · rw [ups_ne _ _ hr] at e
        by_cases h9 : r = .wr m.sw
        · subst h9; rw [ups_at] at e; exact .inr (.inr e)
        · rw [ups_ne _ _ h9] at e; exact .inl (.inr ⟨_, e⟩)
/-- One more row. -/
theorem _root_.Go.Arm.RR.rowO (H : RR h f V m) {o2 : Nat → Bool} {row : Value} (G : Ws h 1 row n ((List.range n).map fun j => bw (o2 j))) (hv : ∀ b, vb row = some b → ¬ RF f V b) (t : Sm Nix h h0) {u : Value} (hu : Sd h0 1 u 1 [row]) (hl : m.so < 1000000000) :
    ∃ v' h1 h2, aAppend Tryz.prog 157 157 (V .ot) u h0 = some (v', h1) ∧ Cl h0 f [V .st, V .wt, .bool m.bg, V .rc, V .sh, V .ot, V .ct] ∧ Cl h1 f [V .st, V .wt, .bool m.bg, V .rc, V .sh, V .ot, V .ct] ∧ Sm (fun b => vb (V .ot) = some b) h0 h1 ∧
      aStore Tryz.prog 157 ⟨f, 5, none⟩ v' h1 = some h2 ∧ RR h2 f (ups (ups V (.or m.so) row) .ot v') { m with so := m.so + 1, co := ups m.co m.so n, o := fun a b => if a = m.so then o2 b else m.o a b } ∧
      Sm (fun b => b = f ∨ vb (V .ot) = some b) h h2 ∧ ∀ b, RF f (ups (ups V (.or m.so) row) .ot v') b → RF f V b ∨ h0.next ≤ b ∨ vb row = some b := by
  have G0 : Gr h0 1 (V .ot) m.so ((List.range m.so).map fun i => V (.or i)) := Gr.ext (H.lay.gr .ot) t
  obtain ⟨v', h1, e1, g1, s1, n1⟩ := G0.append (P := Tryz.prog) (sT := 157) (xT := 157) (el := 32) (by_ := 24) (z := .slice none 0 0) (m := 1) (ds := [row]) (by kernel_rfl) (by kernel_rfl) (by kernel_rfl) (by kernel_rfl) (by kernel_rfl) (by kernel_rfl) (by decide) hu (fun y hy => by cases List.mem_singleton.1 hy; exact (oneS G.sd).2) (by omega)
  have c0 := H.cl.ext t
  have c1 := c0.sm s1 (H.me _)
  obtain ⟨h2, e2, c2, t2, nx2⟩ := c1.store (P := Tryz.prog) (T := 157) (o := 5) (v := v') (by kernel_rfl) (oneS g1.sd).1 (oneS g1.sd).2 (by simp)
  have L0 := H.lay.ext t
  have L1 := L0.put (.or m.so) (v := row) (m := n) (c := (List.range n).map fun j => bw (o2 j)) (Sm.refl (S := Nix)) (fun _ _ _ _ x => x) (show Gw false h0 1 row _ _ from G.ext t) (fun r' _ b hb e => hv b e (.inr ⟨_, hb⟩))
  have s12 : Sm (fun b => b = f ∨ vb (V .ot) = some b) h0 h2 := (s1.mono fun b hb => .inr hb).then (t2.mono fun b hb => .inl hb)
  have fresh : ∀ r' b, vb (ups V (.or m.so) row r') = some b → r' ≠ .ot → vb v' ≠ some b := fun r' b hb hr e => by
    rcases n1 b e with x | x
    · have hj := L1.inj .ot r' b (by rw [ups_ne _ _ (by simp)]; exact x) hb
      exact hr hj.symm
    · have := L1.lt hb; omega
  have ok : ∀ r' b, vb (ups V (.or m.so) row r') = some b → r' ≠ .ot → ¬ (b = f ∨ vb (V .ot) = some b) := fun r' b hb hr e => by
    rcases e with rfl | e
    · by_cases h9 : r' = .or m.so
      · subst h9; rw [ups_at] at hb; exact hv _ hb (.inl rfl)
      · rw [ups_ne _ _ h9] at hb; exact H.me _ hb
    · exact hr (L1.inj .ot r' b (by rw [ups_ne _ _ (by simp)]; exact e) hb).symm
  have L2 := L1.put .ot (v := v') (m := m.so + 1) (c := ((List.range m.so).map fun i => V (.or i)) ++ [row]) s12 (fun r' hr b hb => ok r' b hb hr) (show Gw true h2 1 v' _ _ from g1.sm t2 (fun b hb e => by
    subst e
    rcases n1 b hb with x | x
    · exact H.me _ x
    · have := c0.lt; omega)) (fun r' hr b hb => fresh r' b hb hr)
  refine ⟨v', h1, h2, e1, c0, c1, s1, e2, ⟨?_, L2.eq rfl ?_ ?_, ?_⟩, s12.mono (fun _ x => x) |> fun s => t.of.trans s (fun _ x => .inl x), fun b hb => ?_⟩
  · have : [V .st, V .wt, .bool m.bg, V .rc, V .sh, V .ot, V .ct].set 5 v' = [ups (ups V (.or m.so) row) .ot v' .st, ups (ups V (.or m.so) row) .ot v' .wt, .bool m.bg, ups (ups V (.or m.so) row) .ot v' .rc, ups (ups V (.or m.so) row) .ot v' .sh, ups (ups V (.or m.so) row) .ot v' .ot, ups (ups V (.or m.so) row) .ot v' .ct] := by simp [ups]
    show Cl h2 f [_, _, _, _, _, _, _]
    rw [← this]; exact c2
  · funext r
    cases r with
    | or i =>
      by_cases hi : i = m.so
      · subst hi; simp [ups, Rm.nn]
      · simp [ups, Rm.nn, hi]
    | _ => simp [ups, Rm.nn]
  · funext r
    cases r with
    | ot =>
      rw [ups_at]
      show (List.range (m.so + 1)).map _ = _
      rw [List.range_succ, List.map_append]
      refine congr (congrArg _ (List.map_congr_left fun i hi => ?_)) ?_
      · have : i ≠ m.so := by have := List.mem_range.1 hi; omega
        simp [ups, this]
      · simp [ups]
    | or i =>
      by_cases hi : i = m.so
      · subst hi
        simp [ups, Rm.cont]
      · simp [ups, Rm.cont, hi]
    | _ => simp [ups, Rm.cont]
  · intro r
    by_cases hr : r = .ot
    · subst hr; rw [ups_at]
      intro e
      rcases n1 _ e with x | x
      · exact H.me _ x
      · have := c0.lt; omega
    · rw [ups_ne _ _ hr]
      by_cases h9 : r = .or m.so
      · subst h9; rw [ups_at]; exact fun e => hv _ e (.inl rfl)
      · rw [ups_ne _ _ h9]; exact H.me _
  · rcases hb with e | ⟨r, e⟩
    · exact .inl (.inl e)
    · by_cases hr : r = .ot
      · subst hr; rw [ups_at] at e
        rcases n1 _ e with x | x
        · exact .inl (.inr ⟨_, x⟩)
        · exact .inr (.inl x)
      · rw [ups_ne _ _ hr] at e
        by_cases h9 : r = .or m.so
        · subst h9; rw [ups_at] at e; exact .inr (.inr e)
        · rw [ups_ne _ _ h9] at e; exact .inl (.inr ⟨_, e⟩)
/-- One more row. -/
theorem _root_.Go.Arm.RR.rowC (H : RR h f V m) {row : Value} (G : Ws h 1 row n ((List.range n).map fun j => V (.cc m.sc j))) (hv : ∀ b, vb row = some b → ¬ RF f V b) (t : Sm Nix h h0) {u : Value} (hu : Sd h0 1 u 1 [row]) (hl : m.sc < 1000000000) :
    ∃ v' h1 h2, aAppend Tryz.prog 78 78 (V .ct) u h0 = some (v', h1) ∧ Cl h0 f [V .st, V .wt, .bool m.bg, V .rc, V .sh, V .ot, V .ct] ∧ Cl h1 f [V .st, V .wt, .bool m.bg, V .rc, V .sh, V .ot, V .ct] ∧ Sm (fun b => vb (V .ct) = some b) h0 h1 ∧
      aStore Tryz.prog 78 ⟨f, 6, none⟩ v' h1 = some h2 ∧ RR h2 f (ups (ups V (.cr m.sc) row) .ct v') { m with sc := m.sc + 1, cc := ups m.cc m.sc n } ∧
      Sm (fun b => b = f ∨ vb (V .ct) = some b) h h2 ∧ ∀ b, RF f (ups (ups V (.cr m.sc) row) .ct v') b → RF f V b ∨ h0.next ≤ b ∨ vb row = some b := by
  have G0 : Gr h0 1 (V .ct) m.sc ((List.range m.sc).map fun i => V (.cr i)) := Gr.ext (H.lay.gr .ct) t
  obtain ⟨v', h1, e1, g1, s1, n1⟩ := G0.append (P := Tryz.prog) (sT := 78) (xT := 78) (el := 107) (by_ := 24) (z := .slice none 0 0) (m := 1) (ds := [row]) (by kernel_rfl) (by kernel_rfl) (by kernel_rfl) (by kernel_rfl) (by kernel_rfl) (by kernel_rfl) (by decide) hu (fun y hy => by cases List.mem_singleton.1 hy; exact (oneS G.sd).2) (by omega)
  have c0 := H.cl.ext t
  have c1 := c0.sm s1 (H.me _)
  obtain ⟨h2, e2, c2, t2, nx2⟩ := c1.store (P := Tryz.prog) (T := 78) (o := 6) (v := v') (by kernel_rfl) (oneS g1.sd).1 (oneS g1.sd).2 (by simp)
  have L0 := H.lay.ext t
  have L1 := L0.put (.cr m.sc) (v := row) (m := n) (c := (List.range n).map fun j => V (.cc m.sc j)) (Sm.refl (S := Nix)) (fun _ _ _ _ x => x) (show Gw false h0 1 row _ _ from G.ext t) (fun r' _ b hb e => hv b e (.inr ⟨_, hb⟩))
  have s12 : Sm (fun b => b = f ∨ vb (V .ct) = some b) h0 h2 := (s1.mono fun b hb => .inr hb).then (t2.mono fun b hb => .inl hb)
  have fresh : ∀ r' b, vb (ups V (.cr m.sc) row r') = some b → r' ≠ .ct → vb v' ≠ some b := fun r' b hb hr e => by
    rcases n1 b e with x | x
    · have hj := L1.inj .ct r' b (by rw [ups_ne _ _ (by simp)]; exact x) hb
      exact hr hj.symm
    · have := L1.lt hb; omega
  have ok : ∀ r' b, vb (ups V (.cr m.sc) row r') = some b → r' ≠ .ct → ¬ (b = f ∨ vb (V .ct) = some b) := fun r' b hb hr e => by
    rcases e with rfl | e
    · by_cases h9 : r' = .cr m.sc
      · subst h9; rw [ups_at] at hb; exact hv _ hb (.inl rfl)
      · rw [ups_ne _ _ h9] at hb; exact H.me _ hb
    · exact hr (L1.inj .ct r' b (by rw [ups_ne _ _ (by simp)]; exact e) hb).symm
  have L2 := L1.put .ct (v := v') (m := m.sc + 1) (c := ((List.range m.sc).map fun i => V (.cr i)) ++ [row]) s12 (fun r' hr b hb => ok r' b hb hr) (show Gw true h2 1 v' _ _ from g1.sm t2 (fun b hb e => by
    subst e
    rcases n1 b hb with x | x
    · exact H.me _ x
    · have := c0.lt; omega)) (fun r' hr b hb => fresh r' b hb hr)
  refine ⟨v', h1, h2, e1, c0, c1, s1, e2, ⟨?_, L2.eq rfl ?_ ?_, ?_⟩, s12.mono (fun _ x => x) |> fun s => t.of.trans s (fun _ x => .inl x), fun b hb => ?_⟩
  · have : [V .st, V .wt, .bool m.bg, V .rc, V .sh, V .ot, V .ct].set 6 v' = [ups (ups V (.cr m.sc) row) .ct v' .st, ups (ups V (.cr m.sc) row) .ct v' .wt, .bool m.bg, ups (ups V (.cr m.sc) row) .ct v' .rc, ups (ups V (.cr m.sc) row) .ct v' .sh, ups (ups V (.cr m.sc) row) .ct v' .ot, ups (ups V (.cr m.sc) row) .ct v' .ct] := by simp [ups]
    show Cl h2 f [_, _, _, _, _, _, _]
    rw [← this]; exact c2
  · funext r
    cases r with
    | cr i =>
      by_cases hi : i = m.sc
      · subst hi; simp [ups, Rm.nn]
      · simp [ups, Rm.nn, hi]
    | _ => simp [ups, Rm.nn]
  · funext r
    cases r with
    | ct =>
      rw [ups_at]
      show (List.range (m.sc + 1)).map _ = _
      rw [List.range_succ, List.map_append]
      refine congr (congrArg _ (List.map_congr_left fun i hi => ?_)) ?_
      · have : i ≠ m.sc := by have := List.mem_range.1 hi; omega
        simp [ups, this]
      · simp [ups]
    | cr i =>
      by_cases hi : i = m.sc
      · subst hi
        simp [ups, Rm.cont]
      · simp [ups, Rm.cont, hi]
    | _ => simp [ups, Rm.cont]
  · intro r
    by_cases hr : r = .ct
    · subst hr; rw [ups_at]
      intro e
      rcases n1 _ e with x | x
      · exact H.me _ x
      · have := c0.lt; omega
    · rw [ups_ne _ _ hr]
      by_cases h9 : r = .cr m.sc
      · subst h9; rw [ups_at]; exact fun e => hv _ e (.inl rfl)
      · rw [ups_ne _ _ h9]; exact H.me _
  · rcases hb with e | ⟨r, e⟩
    · exact .inl (.inl e)
    · by_cases hr : r = .ct
      · subst hr; rw [ups_at] at e
        rcases n1 _ e with x | x
        · exact .inl (.inr ⟨_, x⟩)
        · exact .inr (.inl x)
      · rw [ups_ne _ _ hr] at e
        by_cases h9 : r = .cr m.sc
        · subst h9; rw [ups_at] at e; exact .inr (.inr e)
        · rw [ups_ne _ _ h9] at e; exact .inl (.inr ⟨_, e⟩)
theorem _root_.Go.Arm.RR.initS {b : Bool} {l : List Int} (c : Cl h f [v, .slice none 0 0, .bool b, .slice none 0 0, .slice none 0 0, .slice none 0 0, .slice none 0 0]) (G : Ws h 1 v l.length (l.map nv)) (hv : vb v ≠ some f) : RR h f (ups V0_ .st v) { rm0 b with st := l } := by
  refine ⟨c, ⟨fun r => ?_, fun r r' x e e' => ?_⟩, fun r => ?_⟩
  · by_cases hr : r = .st
    · subst hr; rw [ups_at]; exact G
    · rw [ups_ne _ _ hr]
      have e1 : (Rm.cont (ups V0_ .st v) { rm0 b with st := l } r) = [] := by cases r <;> first | rfl | exact absurd rfl hr
      have e2 : ({ rm0 b with st := l } : Rm).nn r = 0 := by cases r <;> first | rfl | exact absurd rfl hr
      rw [e1, e2]
      exact Gw.nil
  · have k : ∀ r, vb (ups V0_ .st v r) = some x → r = .st := fun r e => by
      by_cases hr : r = .st
      · exact hr
      · rw [ups_ne _ _ hr] at e; exact (nil_vb e).elim
    rw [k r e, k r' e']
  · by_cases hr : r = .st
    · subst hr; rw [ups_at]; exact hv
    · rw [ups_ne _ _ hr]; exact nil_vb
theorem cwS (k n : Nat) : ups (fun a => if a < k then n else 0) k n = fun a => if a < k + 1 then n else 0 := by
  funext a
  unfold ups
  by_cases h : a = k
  · subst h; rw [if_pos rfl, if_pos (Nat.lt_succ_self _)]
  · rw [if_neg h]
    dsimp only
    by_cases h2 : a < k
    · rw [if_pos h2, if_pos (by omega)]
    · rw [if_neg h2, if_neg (by omega)]
def newR (l : List Int) (k : Nat) : Rm := { rm0 false with st := l, sw := k, cw := fun a => if a < k then l.length else 0 }
theorem newR_S (l : List Int) (k : Nat) : ({ newR l k with sw := (newR l k).sw + 1, cw := ups (newR l k).cw (newR l k).sw l.length } : Rm) = newR l (k + 1) := by
  unfold newR
  simp only [cwS]
def openG (m : Rm) (n io ic j : Nat) : Rm := { m with bg := true, rc := List.replicate n false, sh := List.replicate n 0, so := io, co := fun a => if a < io then n else 0, o := fun a b => decide (a ≠ b ∧ b < n ∧ (a + 1 < io ∨ a + 1 = io ∧ b < j)), sc := ic, cc := fun a => if a < ic then n else 0, c := fun _ _ => [] }
theorem openG_O (m : Rm) (n i : Nat) : ({ openG m n i i n with so := (openG m n i i n).so + 1, co := ups (openG m n i i n).co (openG m n i i n).so n, o := fun a b => if a = (openG m n i i n).so then false else (openG m n i i n).o a b } : Rm) = openG m n (i + 1) i 0 := by
  unfold openG
  simp only [cwS, Rm.mk.injEq, true_and, and_true]
  funext a b
  by_cases h : a = i
  · rw [if_pos h]; symm; rw [decide_eq_false_iff_not]; omega
  · rw [if_neg h, decide_eq_decide]; omega
theorem openG_C (m : Rm) (n i : Nat) : ({ openG m n (i + 1) i 0 with sc := (openG m n (i + 1) i 0).sc + 1, cc := ups (openG m n (i + 1) i 0).cc (openG m n (i + 1) i 0).sc n } : Rm) = openG m n (i + 1) (i + 1) 0 := by
  unfold openG
  simp only [cwS]
theorem openG_S (m : Rm) (n i k : Nat) (hk : k < n) : ({ openG m n (i + 1) (i + 1) k with o := Rm.up2 (openG m n (i + 1) (i + 1) k).o i k (decide (i ≠ k)) } : Rm) = openG m n (i + 1) (i + 1) (k + 1) := by
  unfold openG
  simp only [Rm.mk.injEq, true_and, and_true]
  funext a b
  unfold Rm.up2
  by_cases h : a = i ∧ b = k
  · rw [if_pos h, decide_eq_decide]; omega
  · rw [if_neg h, decide_eq_decide]; omega
/-- A list that is in no row yet. -/
theorem _root_.Go.Arm.RR.cellW {i j : Nat} {l : List Th} (H : RR h f V m) (hj : ¬ j < m.cw i) (G : Gr h 2 v l.length (l.flatMap thw)) (hv : ∀ b, vb v = some b → ¬ RF f V b) : RR h f (ups V (.wc i j) v) { m with w := Rm.up2 m.w i j l } := by
  have L := H.lay.put (.wc i j) (v := v) (m := l.length) (c := l.flatMap thw) (Sm.refl (S := Nix)) (fun _ _ _ _ x => x) (show Gw true h 2 v _ _ from G) (fun r' _ b hb e => hv b e (.inr ⟨_, hb⟩))
  refine ⟨?_, L.eq rfl ?_ ?_, fun r => ?_⟩
  · have := H.cl
    rw [ups_ne _ _ (by simp), ups_ne _ _ (by simp), ups_ne _ _ (by simp), ups_ne _ _ (by simp), ups_ne _ _ (by simp), ups_ne _ _ (by simp)]
    exact this
  · funext r
    by_cases h3 : r = .wc i j
    · subst h3; rw [ups_at]
      show (Rm.up2 m.w i j l i j).length = _
      rw [Rm.up2_at]
    · rw [ups_ne _ _ h3]
      cases r with
      | wc a b =>
        show (Rm.up2 m.w i j l a b).length = (m.w a b).length
        rw [Rm.up2_ne _ _ (fun h => h3 (by rw [h.1, h.2]))]
      | _ => rfl
  · funext r
    by_cases h3 : r = .wc i j
    · subst h3; rw [ups_at]
      show (Rm.up2 m.w i j l i j).flatMap thw = _
      rw [Rm.up2_at]
    · rw [ups_ne _ _ h3]
      cases r with
      | wc a b =>
        show (Rm.up2 m.w i j l a b).flatMap thw = (m.w a b).flatMap thw
        rw [Rm.up2_ne _ _ (fun h => h3 (by rw [h.1, h.2]))]
      | wr a =>
        show (List.range (m.cw a)).map _ = (List.range (m.cw a)).map _
        refine List.map_congr_left fun b hb => ?_
        refine ups_ne _ _ (fun e => ?_)
        cases e
        exact hj (List.mem_range.1 hb)
      | _ => simp [Rm.cont, ups]
  · by_cases h3 : r = .wc i j
    · subst h3; rw [ups_at]; exact fun e => hv _ e (.inl rfl)
    · rw [ups_ne _ _ h3]; exact H.me _
/-- A list that is in no row yet. -/
theorem _root_.Go.Arm.RR.cellC {i j : Nat} {l : List Int} (H : RR h f V m) (hj : ¬ j < m.cc i) (G : Gr h 1 v l.length (l.map nv)) (hv : ∀ b, vb v = some b → ¬ RF f V b) : RR h f (ups V (.cc i j) v) { m with c := Rm.up2 m.c i j l } := by
  have L := H.lay.put (.cc i j) (v := v) (m := l.length) (c := l.map nv) (Sm.refl (S := Nix)) (fun _ _ _ _ x => x) (show Gw true h 1 v _ _ from G) (fun r' _ b hb e => hv b e (.inr ⟨_, hb⟩))
  refine ⟨?_, L.eq rfl ?_ ?_, fun r => ?_⟩
  · have := H.cl
    rw [ups_ne _ _ (by simp), ups_ne _ _ (by simp), ups_ne _ _ (by simp), ups_ne _ _ (by simp), ups_ne _ _ (by simp), ups_ne _ _ (by simp)]
    exact this
  · funext r
    by_cases h3 : r = .cc i j
    · subst h3; rw [ups_at]
      show (Rm.up2 m.c i j l i j).length = _
      rw [Rm.up2_at]
    · rw [ups_ne _ _ h3]
      cases r with
      | cc a b =>
        show (Rm.up2 m.c i j l a b).length = (m.c a b).length
        rw [Rm.up2_ne _ _ (fun h => h3 (by rw [h.1, h.2]))]
      | _ => rfl
  · funext r
    by_cases h3 : r = .cc i j
    · subst h3; rw [ups_at]
      show (Rm.up2 m.c i j l i j).map nv = _
      rw [Rm.up2_at]
    · rw [ups_ne _ _ h3]
      cases r with
      | cc a b =>
        show (Rm.up2 m.c i j l a b).map nv = (m.c a b).map nv
        rw [Rm.up2_ne _ _ (fun h => h3 (by rw [h.1, h.2]))]
      | cr a =>
        show (List.range (m.cc a)).map _ = (List.range (m.cc a)).map _
        refine List.map_congr_left fun b hb => ?_
        refine ups_ne _ _ (fun e => ?_)
        cases e
        exact hj (List.mem_range.1 hb)
      | _ => simp [Rm.cont, ups]
  · by_cases h3 : r = .cc i j
    · subst h3; rw [ups_at]; exact fun e => hv _ e (.inl rfl)
    · rw [ups_ne _ _ h3]; exact H.me _
/-- What was copied. -/
def cpG (m : Rm) (n iw jw io ic jc : Nat) : Rm := ⟨m.st, m.bg, m.rc, m.sh, iw, fun a => if a < iw then n else 0, fun a b => if b < n ∧ (a < iw ∨ a = iw ∧ b < jw) then m.w a b else [], io, fun a => if a < io then n else 0, fun a b => if a < io then m.o a b else false, ic, fun a => if a < ic then n else 0, fun a b => if b < n ∧ (a < ic ∨ a = ic ∧ b < jc) then m.c a b else []⟩
theorem cpG_0 (m : Rm) (n : Nat) : cpG m n 0 0 0 0 0 = { rm0 m.bg with st := m.st, rc := m.rc, sh := m.sh } := by
  unfold cpG rm0
  simp
theorem if_eq {α : Type} {p q : Prop} [Decidable p] [Decidable q] (h : p ↔ q) (x y : α) : (if p then x else y) = if q then x else y := by
  by_cases hp : p
  · rw [if_pos hp, if_pos (h.1 hp)]
  · rw [if_neg hp, if_neg (fun e => hp (h.2 e))]
theorem cpG_w (m : Rm) {n i j : Nat} (hj : j < n) (o c d : Nat) : ({ cpG m n i j o c d with w := Rm.up2 (cpG m n i j o c d).w i j (m.w i j) } : Rm) = cpG m n i (j + 1) o c d := by
  unfold cpG
  simp only [Rm.mk.injEq, true_and, and_true]
  funext a b
  unfold Rm.up2
  by_cases h : a = i ∧ b = j
  · rw [if_pos h, if_pos (by omega), h.1, h.2]
  · rw [if_neg h]; exact if_eq (by omega) _ _
theorem cpG_c (m : Rm) {n i j : Nat} (hj : j < n) (a b o : Nat) : ({ cpG m n a b o i j with c := Rm.up2 (cpG m n a b o i j).c i j (m.c i j) } : Rm) = cpG m n a b o i (j + 1) := by
  unfold cpG
  simp only [Rm.mk.injEq, true_and, and_true]
  funext a b
  unfold Rm.up2
  by_cases h : a = i ∧ b = j
  · rw [if_pos h, if_pos (by omega), h.1, h.2]
  · rw [if_neg h]; exact if_eq (by omega) _ _
theorem cpG_W (m : Rm) (n i o c d : Nat) : ({ cpG m n i n o c d with sw := (cpG m n i n o c d).sw + 1, cw := ups (cpG m n i n o c d).cw (cpG m n i n o c d).sw n } : Rm) = cpG m n (i + 1) 0 o c d := by
  unfold cpG
  simp only [Rm.mk.injEq, true_and, and_true, cwS]
  funext a b
  exact if_eq (by omega) _ _
theorem cpG_O (m : Rm) (n i a b c d : Nat) : ({ cpG m n a b i c d with so := (cpG m n a b i c d).so + 1, co := ups (cpG m n a b i c d).co (cpG m n a b i c d).so n, o := fun x y => if x = (cpG m n a b i c d).so then m.o i y else (cpG m n a b i c d).o x y } : Rm) = cpG m n a b (i + 1) c d := by
  unfold cpG
  simp only [Rm.mk.injEq, true_and, and_true, cwS]
  funext x y
  by_cases h : x = i
  · rw [if_pos h, if_pos (by omega), h]
  · rw [if_neg h]; exact if_eq (by omega) _ _
theorem cpG_C (m : Rm) (n i a b o : Nat) : ({ cpG m n a b o i n with sc := (cpG m n a b o i n).sc + 1, cc := ups (cpG m n a b o i n).cc (cpG m n a b o i n).sc n } : Rm) = cpG m n a b o (i + 1) 0 := by
  unfold cpG
  simp only [Rm.mk.injEq, true_and, and_true, cwS]
  funext a b
  exact if_eq (by omega) _ _
/-- A list is copied. -/
theorem copyL {P : Program} {k : Nat} {cs : List Value} {u : Value} {T el by_ : Nat} {z : Value} {e : Nat} (t : Sm Nix h h0) (he : e = h.next) (hlt : e < h0.next) (hT : P.underlying T = some (.slice el)) (hx : newsK P T = .list) (hs : szOf P el = some k) (hb : byOf P el = some by_) (hz : zeroOf P el = some z) (hzl : (cellsL z).length = k) (hk : 0 < k)
    (hu : Sd h0 k u n cs) (h1 : ∀ x, x ∈ cs → x.oneCell' = true) (hlim : n * (by_ + 1) < 1099511627776) :
    ∃ v' h', aAppend P T T (.slice (some ⟨e, 0, none⟩) 0 0) u h0 = some (v', h') ∧ Gr h' k v' n cs ∧ Sm Nix h h' ∧ ∀ b, vb v' = some b → h.next ≤ b := by
  have G0 : Gr h0 k (.slice (some ⟨e, 0, none⟩) 0 0) 0 [] := ⟨by simp, .inl ⟨rfl, .inr ⟨_, rfl, hlt⟩⟩⟩
  obtain ⟨v', h', e1, g1, t1, b1⟩ := G0.append hT hx hs hb hz hzl hk hu h1 (by rw [Nat.zero_add]; exact hlim)
  rw [Nat.zero_add, List.nil_append] at g1
  refine ⟨v', h', e1, g1, t.trans t1 (fun b hb => ?_), fun b hb => ?_⟩
  · have : e = b := Option.some.inj hb
    exact .inr (by omega)
  · rcases b1 b hb with x | x
    · have : e = b := Option.some.inj x
      omega
    · exact Nat.le_trans t.nx x
/-- A flow's values when a snapshot is begun. -/
def openV (V : RL → Value) (a b n : Nat) : RL → Value
  | .st => V .st
  | .wt => V .wt
  | .wr i => V (.wr i)
  | .wc i j => V (.wc i j)
  | .rc => .slice (some ⟨a, 0, none⟩) n n
  | .sh => .slice (some ⟨b, 0, none⟩) n n
  | _ => .slice none 0 0
theorem rep_map {α : Type} (n : Nat) (x : α) (g : α → Value) : (List.replicate n x).map g = zrep n [g x] := by
  induction n with
  | zero => rfl
  | succ n ih => rw [List.replicate_succ, List.map_cons, ih]; rfl
theorem _root_.Go.Arm.RR.open_ {a b : Nat} (H : RR h f V m) (t : Sm Nix h h0) (ca : Cl h0 a (zrep n [.bool false])) (cb : Cl h0 b (zrep n [.int .i64 0])) (ha : h.next ≤ a) (hb : h.next ≤ b) (hab : a ≠ b) (s : Sm (fun x => x = f) h0 h')
    (c : Cl h' f [V .st, V .wt, .bool true, .slice (some ⟨a, 0, none⟩) n n, .slice (some ⟨b, 0, none⟩) n n, .slice none 0 0, .slice none 0 0]) : RR h' f (openV V a b n) (openG m n 0 0 n) := by
  have hf := H.cl.lt
  have L := (H.lay.ext t).sm s (fun r x hx e => by subst e; exact H.me _ hx)
  have key : ∀ r x, vb (openV V a b n r) = some x → (x < h.next ∧ vb (V r) = some x) ∨ (r = .rc ∧ x = a) ∨ (r = .sh ∧ x = b) := fun r x hx => by
    cases r with
    | rc => exact .inr (.inl ⟨rfl, (Option.some.inj hx).symm⟩)
    | sh => exact .inr (.inr ⟨rfl, (Option.some.inj hx).symm⟩)
    | st => exact .inl ⟨H.lay.lt (r := .st) hx, hx⟩
    | wt => exact .inl ⟨H.lay.lt (r := .wt) hx, hx⟩
    | wr i => exact .inl ⟨H.lay.lt (r := .wr i) hx, hx⟩
    | wc i j => exact .inl ⟨H.lay.lt (r := .wc i j) hx, hx⟩
    | _ => exact (nil_vb hx).elim
  refine ⟨c, ⟨fun r => ?_, fun r r' x e e' => ?_⟩, fun r e => ?_⟩
  · cases r with
    | st => exact L.gr .st
    | wt => exact L.gr .wt
    | wr i => exact L.gr (.wr i)
    | wc i j => exact L.gr (.wc i j)
    | rc =>
      have G := (ca.sm s (by omega)).ws (n := n) (by rw [zrep_len]; simp)
      show Ws h' 1 _ (List.replicate n false).length ((List.replicate n false).map bw)
      rw [List.length_replicate, rep_map]; exact G
    | sh =>
      have G := (cb.sm s (by omega)).ws (n := n) (by rw [zrep_len]; simp)
      show Ws h' 1 _ (List.replicate n 0).length ((List.replicate n 0).map nv)
      rw [List.length_replicate, rep_map]; exact G
    | _ => exact Gw.nil
  · rcases key r x e with ⟨h1, h2⟩ | ⟨h1, h2⟩ | ⟨h1, h2⟩ <;> rcases key r' x e' with ⟨h3, h4⟩ | ⟨h3, h4⟩ | ⟨h3, h4⟩
    · exact H.lay.inj _ _ _ h2 h4
    · omega
    · omega
    · omega
    · rw [h1, h3]
    · omega
    · omega
    · omega
    · rw [h1, h3]
  · rcases key r f e with ⟨h1, h2⟩ | ⟨h1, h2⟩ | ⟨h1, h2⟩
    · exact H.me _ h2
    · omega
    · omega
theorem openV_RF {a b : Nat} {x : Nat} (hx : RF f (openV V a b n) x) : RF f V x ∨ x = a ∨ x = b := by
  rcases hx with e | ⟨r, e⟩
  · exact .inl (.inl e)
  · cases r with
    | rc => exact .inr (.inl (Option.some.inj e).symm)
    | sh => exact .inr (.inr (Option.some.inj e).symm)
    | st => exact .inl (.inr ⟨.st, e⟩)
    | wt => exact .inl (.inr ⟨.wt, e⟩)
    | wr i => exact .inl (.inr ⟨.wr i, e⟩)
    | wc i j => exact .inl (.inr ⟨.wc i j, e⟩)
    | _ => exact (nil_vb e).elim
theorem openG_ok {m : Rm} (hO : Rm.Ok n m) (io ic j : Nat) : Rm.Ok n (openG m n io ic j) := ⟨hO.st, hO.sw, hO.cw⟩
theorem openG_sn (m : Rm) (n : Nat) : Rm.Sn n (openG m n n n n) := ⟨List.length_replicate, List.length_replicate, rfl, fun i hi => if_pos hi, rfl, fun i hi => if_pos hi⟩
theorem neq_nat (i k : Nat) : Value.bool ((i : Int) != (k : Int)) = .bool (decide (i ≠ k)) := by
  congr 1
  by_cases h : i = k
  · subst h; simp
  · have : ¬ (i : Int) = k := by omega
    simp [h, this]
end
section
variable {P : Program} {n i : Nat} {h : AH} {f : Fr} {ops : Array Oper} {o : Oper} {r : List Nat}
/-- How long something was is known again. -/
theorem Rk_ln {T : TypeId} {x : Operand} {a : Value} {d : Nat} (v : Value) (ho : ops[i]? = some o) (hop : o.op = .call ⟨.builtin .len, ⟨[x]⟩, ⟨[T]⟩⟩) (hd : o.dst = some d) (ha : ev n f x = some a) (hv : aLen P T a h = some v) (hf : f d = v) (k : Rk P n ops f h r) : Rk P n ops f h (i :: r) :=
  Rk_v (v := v) ho hd (by rw [hop]; simp only [evVal, ha]; exact hv) hf k
end
end
end Go.Proofs.YtdaedcoolcicoaaGreat
namespace Go.Proofs.YtdaedcoolcicoaaGreat
noncomputable section
open Go Go.X Go.Arm
theorem rnew_err {h : AH} {s : Value} {l : List Int} (H : Sd h 1 s l.length (l.map iv)) (h0 : l.length < 1 ∨ 64 < l.length) :
    Arm.Calls Tryz.prog 33 [s] h (fun r => r = (.tuple ⟨[.pointer none, .int .i64 3]⟩, h)) := by
  have hcase : l.length < 1 ∨ (1 ≤ l.length ∧ 64 < l.length) := by omega
  refine Calls_of_W (n := 38) (fn := Tryz.f33) (by kernel_rfl) rfl rfl (Nat.le_of_ble_eq_true rfl) trivial ⟨.inr (by simp), rfl⟩ ?_
  refine W_seq ?_
  refine W_region ?_
  refine L_g 2 (by kernel_rfl) ?_
  refine L_nil ?_
  refine W_seq ?_
  refine W_seq ?_
  rcases hcase with hc | hc
  ·
    refine W_region ?_
    refine L_g 1 (by kernel_rfl) ?_
    refine L_ln _ rfl rfl (by kernel_rfl) (H.len u64) ?_
    refine L_i ((l.length : Int)) (1) (.bool true) rfl rfl (by kernel_rfl) (by kernel_rfl) rfl (by first | (simp; done) | (simp; omega)) ?_
    refine L_g 5 (by kernel_rfl) ?_
    refine L_nil ?_
    refine W_cond true (by kernel_rfl) (fun _ => ?_) (fun e => by cases e)
    refine W_seq ?_
    refine W_region ?_
    refine L_g 2 (by kernel_rfl) ?_
    refine L_nil ?_
    refine W_ret ?_
    repeat first | with_reducible refine then_ret ?_ | with_reducible refine blk_ret ?_
    refine done_of (v := .tuple ⟨[.pointer none, .int .i64 3]⟩) (.inl rfl) (by kernel_rfl) ?_
    rfl
  ·
    refine W_region ?_
    refine L_g 1 (by kernel_rfl) ?_
    refine L_ln _ rfl rfl (by kernel_rfl) (H.len u64) ?_
    refine L_i ((l.length : Int)) (1) (.bool false) rfl rfl (by kernel_rfl) (by kernel_rfl) rfl (by first | (simp; done) | (simp; omega)) ?_
    refine L_g 2 (by kernel_rfl) ?_
    refine L_want (by kernel_rfl) ?_
    refine L_ln _ rfl rfl (by kernel_rfl) (H.len u64) ?_
    refine L_want (by kernel_rfl) ?_
    refine L_i ((l.length : Int)) (64) (.bool true) rfl rfl (by kernel_rfl) (by kernel_rfl) rfl (by first | (simp; done) | (simp; omega)) ?_
    refine L_g 1 (by kernel_rfl) ?_
    refine L_nil ?_
    refine W_cond true (by kernel_rfl) (fun _ => ?_) (fun e => by cases e)
    refine W_seq ?_
    refine W_region ?_
    refine L_g 2 (by kernel_rfl) ?_
    refine L_nil ?_
    refine W_ret ?_
    repeat first | with_reducible refine then_ret ?_ | with_reducible refine blk_ret ?_
    refine done_of (v := .tuple ⟨[.pointer none, .int .i64 3]⟩) (.inl rfl) (by kernel_rfl) ?_
    rfl
set_option maxHeartbeats 1000000 in
theorem rnew_ok {h : AH} {s : Value} {l : List Int} (H : Sd h 1 s l.length (l.map iv)) (h0 : 0 < l.length) (h64 : l.length ≤ 64) :
    Arm.Calls Tryz.prog 33 [s] h (fun r => ∃ f V, r.1 = .tuple ⟨[ptr f, .int .i64 0]⟩ ∧ RR r.2 f V (newR l l.length) ∧ Sm Nix h r.2 ∧ ∀ b, RF f V b → h.next ≤ b) := by
  refine Calls_of_W (n := 38) (fn := Tryz.f33) (by kernel_rfl) rfl rfl (Nat.le_of_ble_eq_true rfl) trivial ⟨.inr (by simp), rfl⟩ ?_
  refine W_seq ?_
  refine W_region ?_
  refine L_g 2 (by kernel_rfl) ?_
  refine L_nil ?_
  refine W_seq ?_
  refine W_seq ?_
  refine W_region ?_
  refine L_g 1 (by kernel_rfl) ?_
  refine L_ln _ rfl rfl (by kernel_rfl) (H.len u64) ?_
  refine L_i ((l.length : Int)) (1) (.bool false) rfl rfl (by kernel_rfl) (by kernel_rfl) rfl (by first | (simp; done) | (simp; omega)) ?_
  refine L_g 2 (by kernel_rfl) ?_
  refine L_want (by kernel_rfl) ?_
  refine L_ln _ rfl rfl (by kernel_rfl) (H.len u64) ?_
  refine L_want (by kernel_rfl) ?_
  refine L_i ((l.length : Int)) (64) (.bool false) rfl rfl (by kernel_rfl) (by kernel_rfl) rfl (by first | (simp; done) | (simp; omega)) ?_
  refine L_g 1 (by kernel_rfl) ?_
  refine L_nil ?_
  refine W_cond false (by kernel_rfl) (fun e => by cases e) (fun _ => ?_)
  refine W_skip ?_
  refine W_seq ?_
  refine W_region ?_
  refine L_nw (.cells []) (.sl 0 0) rfl rfl (by kernel_rfl) ?_
  have t1 : Sm Nix h (h.push (Al.cells []).obj) := .push h _
  have n1 : (h.push (Al.cells []).obj).next = h.next + 1 := rfl
  have G0 : Gr (h.push (Al.cells []).obj) 1 (.slice (some ⟨h.next, 0, none⟩) 0 0) 0 [] := ⟨rfl, .inl ⟨rfl, .inr ⟨_, rfl, Nat.lt_succ_self _⟩⟩⟩
  generalize h.push (Al.cells []).obj = h1 at t1 n1 G0 ⊢
  obtain ⟨v', h2, e2, g2, t2, b2⟩ := G0.append (P := Tryz.prog) (sT := 64) (xT := 64) (el := 2) (by_ := 8) (z := .int .i64 0) (m := l.length) (ds := l.map iv) (by kernel_rfl) (by kernel_rfl) (by kernel_rfl) (by kernel_rfl) (by kernel_rfl) (by kernel_rfl) (by decide) (H.ext t1) iv_one (by omega)
  rw [Nat.zero_add, List.nil_append] at g2
  obtain ⟨av, cv, ev⟩ := g2.sd.form
  subst ev
  have b2 : ∀ b, vb (Value.slice av l.length cv) = some b → h.next ≤ b := fun b hb => (b2 b hb).elim (fun e => by cases e; exact Nat.le_refl _) (fun e => by omega)
  have T2 : Sm Nix h h2 := t1.trans t2 (fun b hb => by cases hb; exact .inr (Nat.le_refl _))
  refine L_g 1 (by kernel_rfl) ?_
  refine L_bi (.slice av l.length cv) h2 rfl rfl (by kernel_rfl) (vs := [.slice (some ⟨h.next, 0, none⟩) 0 0, s]) (by kernel_rfl) (bi_append e2) ?_
  refine L_g 1 (by kernel_rfl) ?_
  refine L_nw (Al.cells [Value.slice av l.length cv, Value.slice none 0 0, Value.bool false, Value.slice none 0 0, Value.slice none 0 0, Value.slice none 0 0, Value.slice none 0 0]) .ptr rfl rfl (by kernel_rfl) ?_
  have c3 : Cl (h2.push (Al.cells [Value.slice av l.length cv, Value.slice none 0 0, Value.bool false, Value.slice none 0 0, Value.slice none 0 0, Value.slice none 0 0, Value.slice none 0 0]).obj) h2.next [Value.slice av l.length cv, Value.slice none 0 0, Value.bool false, Value.slice none 0 0, Value.slice none 0 0, Value.slice none 0 0, Value.slice none 0 0] := Cl.new h2 _
  have t3 : Sm Nix h2 (h2.push (Al.cells [Value.slice av l.length cv, Value.slice none 0 0, Value.bool false, Value.slice none 0 0, Value.slice none 0 0, Value.slice none 0 0, Value.slice none 0 0]).obj) := .push h2 _
  obtain ⟨f, ef⟩ : ∃ f, f = h2.next := ⟨_, rfl⟩
  rw [← ef] at c3
  show L _ _ _ _ _ (upd _ _ (Value.pointer (some ⟨h2.next, 0, none⟩))) _
  rw [← ef]
  generalize h2.push (Al.cells [Value.slice av l.length cv, Value.slice none 0 0, Value.bool false, Value.slice none 0 0, Value.slice none 0 0, Value.slice none 0 0, Value.slice none 0 0]).obj = h3 at c3 t3 ⊢
  have R3 : RR h3 f (ups V0_ .st (Value.slice av l.length cv)) (newR l 0) := RR.initS c3 (g2.ext t3).ws (fun e => by have := g2.lt e; omega)
  have T3 : Sm Nix h h3 := T2.ext t3
  have hf : h.next ≤ f := by have := T2.nx; omega
  have B3 : ∀ b, RF f (ups V0_ .st (Value.slice av l.length cv)) b → h.next ≤ b := fun b hb => by
    rcases hb with e | ⟨r, e⟩
    · omega
    · by_cases hr : r = .st
      · subst hr; rw [ups_at] at e; exact b2 b e
      · rw [ups_ne _ _ hr] at e; exact (nil_vb e).elim
  have N3 : ∀ i j, ups V0_ .st (Value.slice av l.length cv) (.wc i j) = Value.slice none 0 0 := fun i j => by rw [ups_ne _ _ (by simp)]; rfl
  refine L_g 1 (by kernel_rfl) ?_
  refine L_nil ?_
  refine W_seq ?_
  refine W_seq ?_
  refine W_region ?_
  refine L_g 1 (by kernel_rfl) ?_
  refine L_nil ?_
  refine W_block ?_
  refine W_loop (fun i fr hh => ∃ k V5, k ≤ l.length ∧ i = l.length - k ∧ fr 0 = s ∧ fr 4 = ptr f ∧ fr 5 = .int .i64 k ∧ RR hh f V5 (newR l k) ∧ Sm Nix h hh ∧ (∀ b, RF f V5 b → h.next ≤ b) ∧ ∀ i j, V5 (.wc i j) = Value.slice none 0 0) (l.length) ?_ ?_
  ·
    exact ⟨0, _, Nat.zero_le _, rfl, by kernel_rfl, by kernel_rfl, by kernel_rfl, R3, T3, B3, N3⟩
  rintro i1 fr1 h5 ⟨k, V5, hk, hi1, y0, y4, y5, H5, T5, B5, N5⟩
  have HS5 := H.ext T5
  refine W_set (k := 0) y0 ?_
  refine W_set (k := 4) y4 ?_
  refine W_set (k := 5) y5 ?_
  refine W_seq ?_
  refine W_seq ?_
  refine W_region ?_
  refine L_g 2 (by kernel_rfl) ?_
  refine L_ln _ rfl rfl (by kernel_rfl) (HS5.len u64) ?_
  refine L_g 1 (by kernel_rfl) ?_
  refine L_nil ?_
  refine W_cond (decide ((k : Int) < (l.length : Nat))) (by kernel_rfl) (fun hb => ?_) (fun hb => ?_)
  ·
    have hlt : k < l.length := by simp at hb; omega
    refine W_skip ?_
    refine W_seq ?_
    refine W_block ?_
    refine W_drawn (by kernel_rfl) ?_
    refine D_e (e := 9) (l := [0, 1, 2, 3, 4, 5, 6, 7, 8]) (s' := [0]) (by kernel_rfl) (by kernel_rfl) rfl (by kernel_rfl) Rk_nil ?_
    refine NS_b 4 (by kernel_rfl) ?_
    refine NS_ld _ rfl rfl (by kernel_rfl) (by kernel_rfl) (by kernel_rfl) (H5.cl.ld (o := 1) (by kernel_rfl) rfl) ?_
    refine NS_b 1 (by kernel_rfl) ?_
    refine NS_ln _ rfl rfl (by kernel_rfl) (by kernel_rfl) (by kernel_rfl) (HS5.len u64) ?_
    refine NS_newR (Al.cells (zrep l.length [Value.slice none 0 0])) (.sl l.length l.length) rfl (by kernel_rfl) rfl rfl (ev_mk (P := Tryz.prog) (el := 177) (z := Value.slice none 0 0) (by_ := 24) (by kernel_rfl) (by kernel_rfl) (by kernel_rfl) (by kernel_rfl) rfl (by omega) (by kernel_rfl) (by kernel_rfl)) (Rk_1 rfl rfl (Rk_1 rfl rfl (Rk_1 rfl rfl (Rk_1 rfl rfl (Rk_ld _ rfl rfl rfl (by kernel_rfl) ((H5.ext (.push h5 _)).cl.ld (o := 1) (by kernel_rfl) rfl) (by kernel_rfl) (Rk_1 rfl rfl (Rk_ln _ rfl rfl rfl (by kernel_rfl) ((HS5.ext (.push h5 _)).len u64) (by kernel_rfl) (Rk_1 rfl rfl Rk_nil)))))))) ?_
    obtain ⟨hr, ehr⟩ : ∃ hr, hr = h5.next := ⟨_, rfl⟩
    have cR : Cl (h5.push (Al.cells (zrep l.length [Value.slice none 0 0])).obj) h5.next (zrep l.length [Value.slice none 0 0]) := Cl.new h5 _
    have tR : Sm Nix h5 (h5.push (Al.cells (zrep l.length [Value.slice none 0 0])).obj) := .push h5 _
    have nR : (h5.push (Al.cells (zrep l.length [Value.slice none 0 0])).obj).next = h5.next + 1 := rfl
    rw [← ehr] at cR
    show NS _ _ _ _ _ _ (upd _ _ (Value.slice (some ⟨h5.next, 0, none⟩) l.length l.length)) _
    rw [← ehr]
    generalize h5.push (Al.cells (zrep l.length [Value.slice none 0 0])).obj = hR at cR tR nR ⊢
    have HR := H5.ext tR
    have tB : Sm Nix hR (hR.push (Al.cells [Value.slice (some ⟨hr, 0, none⟩) l.length l.length]).obj) := .push hR _
    obtain ⟨v', h1, h7, eA, cl0, cl1, sA, eS, H7, t7, b7⟩ := HR.rowW (n := l.length) (row := Value.slice (some ⟨hr, 0, none⟩) l.length l.length) (by have G := (cR.ws (n := l.length) (by rw [zrep_len]; simp)); rw [zrep_one] at G; rw [show (fun j => V5 (.wc (newR l k).sw j)) = fun _ => Value.slice none 0 0 from funext fun j => N5 _ j]; exact G) (fun b hb e => by have := H5.lt e; have hb : hr = b := Option.some.inj hb; omega) tB (u := .slice (some ⟨hR.next, 0, none⟩) 1 1) ((Cl.new hR _).sd rfl) (by show k < _; omega)
    have HB := HR.ext tB
    refine NS_newR (Al.cells [Value.slice (some ⟨hr, 0, none⟩) l.length l.length]) (.sl 1 1) rfl (by kernel_rfl) rfl rfl (by kernel_rfl) (Rk_1 rfl rfl (Rk_1 rfl rfl (Rk_1 rfl rfl (Rk_1 rfl rfl (Rk_ld _ rfl rfl rfl (by kernel_rfl) (HB.cl.ld (o := 1) (by kernel_rfl) rfl) (by kernel_rfl) (Rk_1 rfl rfl (Rk_ln _ rfl rfl rfl (by kernel_rfl) (((HS5.ext tR).ext tB).len u64) (by kernel_rfl) (Rk_1 rfl rfl (Rk_1 rfl rfl Rk_nil))))))))) ?_
    generalize hR.push (Al.cells [Value.slice (some ⟨hr, 0, none⟩) l.length l.length]).obj = hB at tB eA cl0 sA b7 HB
    refine NS_nil ?_
    refine L_bi v' h1 rfl rfl (by kernel_rfl) (vs := [V5 .wt, .slice (some ⟨hR.next, 0, none⟩) 1 1]) (by kernel_rfl) (bi_append eA) ?_
    refine L_nil ⟨rfl, ?_⟩
    refine D_e (e := 12) (l := [10, 11]) (s' := []) (by kernel_rfl) (by kernel_rfl) rfl (by kernel_rfl) (Rk_noRead (by kernel_rfl)) ?_
    refine NS_b 2 (by kernel_rfl) ?_
    refine NS_nil ?_
    refine L_st _ rfl rfl rfl (by kernel_rfl) (by kernel_rfl) (eS) ?_
    refine L_nil ⟨rfl, ?_⟩
    refine D_l (l := []) (by kernel_rfl) (by kernel_rfl) Rk_nil ?_
    refine NS_nil ?_
    refine W_region ?_
    refine L_g 1 (by kernel_rfl) ?_
    refine L_i ((k : Int)) (1) (.int .i64 ((k + 1 : Nat) : Int)) rfl rfl (by kernel_rfl) (by kernel_rfl) rfl (inc_ok (by omega)) ?_
    refine L_g 1 (by kernel_rfl) ?_
    refine L_nil ?_
    refine ⟨l.length - (k + 1), by omega, k + 1, _, by omega, rfl, by kernel_rfl, by kernel_rfl, by kernel_rfl, by rw [← newR_S]; exact H7, (T5.ext tR).trans t7 (fun b hb => .inr ?_), fun b hb => ?_, fun i j => ?_⟩
    · rcases hb with e | e
      · exact e ▸ hf
      · exact B5 b (.inr ⟨_, e⟩)
    · have := T5.nx
      have := tB.nx
      rcases b7 b hb with e | e | e
      · exact B5 b e
      · omega
      · have e : hr = b := Option.some.inj e
        omega
    · rw [ups_ne _ _ (by simp), ups_ne _ _ (by simp)]; exact N5 i j
  ·
    have hge : k = l.length := by simp at hb; omega
    refine W_exit ?_
    repeat with_reducible refine then_exit ?_
    refine exit_here ?_
    refine W_seq ?_
    refine W_region ?_
    refine L_g 3 (by kernel_rfl) ?_
    refine L_nil ?_
    refine W_ret ?_
    repeat first | with_reducible refine then_ret ?_ | with_reducible refine blk_ret ?_
    refine done_of (v := .tuple ⟨[ptr f, .int .i64 0]⟩) (.inl rfl) (by kernel_rfl) ?_
    subst hge
    exact ⟨f, V5, rfl, H5, T5, B5⟩
end
end Go.Proofs.YtdaedcoolcicoaaGreat
namespace Go.Proofs.YtdaedcoolcicoaaGreat
noncomputable section
open Go Go.X Go.Arm
theorem rbegin_err {h : AH} {f : Nat} {V : RL → Value} {m : Rm} {p : Int} (H : RR h f V m) (he : p < 0 ∨ (m.st.length : Int) ≤ p) :
    Arm.Calls Tryz.prog 39 [ptr f, .int .i64 p] h (fun r => r = (.int .i64 11, h)) := by
  have hcase : p < 0 ∨ (0 ≤ p ∧ (m.st.length : Int) ≤ p) := by omega
  refine Calls_of_W (n := 90) (fn := Tryz.f39) (by kernel_rfl) rfl rfl (Nat.le_of_ble_eq_true rfl) trivial ⟨.inr (by simp), rfl⟩ ?_
  refine W_seq ?_
  refine W_region ?_
  refine L_g 1 (by kernel_rfl) ?_
  refine L_nil ?_
  refine W_seq ?_
  refine W_region ?_
  refine L_g 3 (by kernel_rfl) ?_
  refine L_ld _ rfl rfl (by kernel_rfl) (H.cl.ld (o := 0) (by kernel_rfl) rfl) ?_
  refine L_ln _ rfl rfl (by kernel_rfl) (H.stWs.lenV u64r) ?_
  refine L_g 1 (by kernel_rfl) ?_
  refine L_nil ?_
  refine W_seq ?_
  refine W_seq ?_
  rcases hcase with hc | hc
  ·
    refine W_region ?_
    refine L_g 1 (by kernel_rfl) ?_
    refine L_i (p) (0) (.bool true) rfl rfl (by kernel_rfl) (by kernel_rfl) rfl (by first | (simp; done) | (simp; omega)) ?_
    refine L_g 5 (by kernel_rfl) ?_
    refine L_nil ?_
    refine W_cond true (by kernel_rfl) (fun _ => ?_) (fun e => by cases e)
    refine W_seq ?_
    refine W_region ?_
    refine L_g 1 (by kernel_rfl) ?_
    refine L_nil ?_
    refine W_ret ?_
    repeat first | with_reducible refine then_ret ?_ | with_reducible refine blk_ret ?_
    refine done_of (v := .int .i64 11) (.inl rfl) (by kernel_rfl) ?_
    rfl
  ·
    refine W_region ?_
    refine L_g 1 (by kernel_rfl) ?_
    refine L_i (p) (0) (.bool false) rfl rfl (by kernel_rfl) (by kernel_rfl) rfl (by first | (simp; done) | (simp; omega)) ?_
    refine L_g 3 (by kernel_rfl) ?_
    refine L_want (by kernel_rfl) ?_
    refine L_i (p) ((m.st.length : Int)) (.bool true) rfl rfl (by kernel_rfl) (by kernel_rfl) rfl (by first | (simp; done) | (simp; omega)) ?_
    refine L_g 1 (by kernel_rfl) ?_
    refine L_nil ?_
    refine W_cond true (by kernel_rfl) (fun _ => ?_) (fun e => by cases e)
    refine W_seq ?_
    refine W_region ?_
    refine L_g 1 (by kernel_rfl) ?_
    refine L_nil ?_
    refine W_ret ?_
    repeat first | with_reducible refine then_ret ?_ | with_reducible refine blk_ret ?_
    refine done_of (v := .int .i64 11) (.inl rfl) (by kernel_rfl) ?_
    rfl
theorem rbegin_on {h : AH} {f : Nat} {V : RL → Value} {m : Rm} {p : Nat} (H : RR h f V m) (hp : p < m.st.length) (hbg : m.bg = true) :
    Arm.Calls Tryz.prog 39 [ptr f, .int .i64 p] h (fun r => r = (.int .i64 6, h)) := by
  refine Calls_of_W (n := 90) (fn := Tryz.f39) (by kernel_rfl) rfl rfl (Nat.le_of_ble_eq_true rfl) trivial ⟨.inr (by simp), rfl⟩ ?_
  refine W_seq ?_
  refine W_region ?_
  refine L_g 1 (by kernel_rfl) ?_
  refine L_nil ?_
  refine W_seq ?_
  refine W_region ?_
  refine L_g 3 (by kernel_rfl) ?_
  refine L_ld _ rfl rfl (by kernel_rfl) (H.cl.ld (o := 0) (by kernel_rfl) rfl) ?_
  refine L_ln _ rfl rfl (by kernel_rfl) (H.stWs.lenV u64r) ?_
  refine L_g 1 (by kernel_rfl) ?_
  refine L_nil ?_
  refine W_seq ?_
  refine W_seq ?_
  refine W_region ?_
  refine L_g 1 (by kernel_rfl) ?_
  refine L_i ((p : Int)) (0) (.bool false) rfl rfl (by kernel_rfl) (by kernel_rfl) rfl (by first | (simp; done) | (simp; omega)) ?_
  refine L_g 3 (by kernel_rfl) ?_
  refine L_want (by kernel_rfl) ?_
  refine L_i ((p : Int)) ((m.st.length : Int)) (.bool false) rfl rfl (by kernel_rfl) (by kernel_rfl) rfl (by first | (simp; done) | (simp; omega)) ?_
  refine L_g 1 (by kernel_rfl) ?_
  refine L_nil ?_
  refine W_cond false (by kernel_rfl) (fun e => by cases e) (fun _ => ?_)
  refine W_skip ?_
  refine W_seq ?_
  refine W_seq ?_
  refine W_region ?_
  refine L_g 3 (by kernel_rfl) ?_
  refine L_ld _ rfl rfl (by kernel_rfl) ((show aLoad Tryz.prog 4 ⟨f, 2, none⟩ h = some (.bool true) from by have := H.cl.ld (P := Tryz.prog) (T := 4) (o := 2) (by kernel_rfl) rfl; rw [hbg] at this; exact this)) ?_
  refine L_nil ?_
  refine W_cond true (by kernel_rfl) (fun _ => ?_) (fun e => by cases e)
  refine W_seq ?_
  refine W_region ?_
  refine L_g 1 (by kernel_rfl) ?_
  refine L_nil ?_
  refine W_ret ?_
  repeat first | with_reducible refine then_ret ?_ | with_reducible refine blk_ret ?_
  refine done_of (v := .int .i64 6) (.inl rfl) (by kernel_rfl) ?_
  rfl
set_option maxHeartbeats 4000000 in
theorem rbegin_ok {h : AH} {f : Nat} {V : RL → Value} {m : Rm} {p K : Nat} (H : RR h f V m) (hO : Rm.Ok m.st.length m) (hp : p < m.st.length) (hbg : m.bg = false) (hn : m.st.length < 1000000) (hle : m.le K) (hK : K < 400000000) :
    Arm.Calls Tryz.prog 39 [ptr f, .int .i64 p] h (fun r => r.1 = .int .i64 0 ∧ RP h f V ((openG m m.st.length m.st.length m.st.length m.st.length).recd p) r.2) := by
  refine Calls_of_W (n := 90) (fn := Tryz.f39) (by kernel_rfl) rfl rfl (Nat.le_of_ble_eq_true rfl) trivial ⟨.inr (by simp), rfl⟩ ?_
  refine W_seq ?_
  refine W_region ?_
  refine L_g 1 (by kernel_rfl) ?_
  refine L_nil ?_
  refine W_seq ?_
  refine W_region ?_
  refine L_g 3 (by kernel_rfl) ?_
  refine L_ld _ rfl rfl (by kernel_rfl) (H.cl.ld (o := 0) (by kernel_rfl) rfl) ?_
  refine L_ln _ rfl rfl (by kernel_rfl) (H.stWs.lenV u64r) ?_
  refine L_g 1 (by kernel_rfl) ?_
  refine L_nil ?_
  refine W_seq ?_
  refine W_seq ?_
  refine W_region ?_
  refine L_g 1 (by kernel_rfl) ?_
  refine L_i ((p : Int)) (0) (.bool false) rfl rfl (by kernel_rfl) (by kernel_rfl) rfl (by first | (simp; done) | (simp; omega)) ?_
  refine L_g 3 (by kernel_rfl) ?_
  refine L_want (by kernel_rfl) ?_
  refine L_i ((p : Int)) ((m.st.length : Int)) (.bool false) rfl rfl (by kernel_rfl) (by kernel_rfl) rfl (by first | (simp; done) | (simp; omega)) ?_
  refine L_g 1 (by kernel_rfl) ?_
  refine L_nil ?_
  refine W_cond false (by kernel_rfl) (fun e => by cases e) (fun _ => ?_)
  refine W_skip ?_
  refine W_seq ?_
  refine W_seq ?_
  refine W_region ?_
  refine L_g 3 (by kernel_rfl) ?_
  refine L_ld _ rfl rfl (by kernel_rfl) ((show aLoad Tryz.prog 4 ⟨f, 2, none⟩ h = some (.bool false) from by have := H.cl.ld (P := Tryz.prog) (T := 4) (o := 2) (by kernel_rfl) rfl; rw [hbg] at this; exact this)) ?_
  refine L_nil ?_
  refine W_cond false (by kernel_rfl) (fun e => by cases e) (fun _ => ?_)
  refine W_skip ?_
  refine W_seq ?_
  refine W_drawn (by kernel_rfl) ?_
  refine D_e (e := 11) (l := [0, 1, 2, 3, 4, 5, 6, 7, 8, 9, 10]) (s' := [1, 2, 3, 4, 5, 6, 7, 8]) (by kernel_rfl) (by kernel_rfl) rfl (by kernel_rfl) Rk_nil ?_
  refine NS_b 6 (by kernel_rfl) ?_
  refine NS_new (Al.cells (zrep m.st.length [Value.bool false])) (.sl m.st.length m.st.length) rfl (by kernel_rfl) rfl rfl (by kernel_rfl) (ev_mk (P := Tryz.prog) (el := 4) (z := Value.bool false) (by_ := 1) (by kernel_rfl) (by kernel_rfl) (by kernel_rfl) (by kernel_rfl) rfl (by omega) (by kernel_rfl) (by kernel_rfl)) ?_
  obtain ⟨ba, eba⟩ : ∃ ba, ba = h.next := ⟨_, rfl⟩
  have c1 : Cl (h.push (Al.cells (zrep m.st.length [Value.bool false])).obj) h.next (zrep m.st.length [Value.bool false]) := Cl.new h _
  have t1 : Sm Nix h (h.push (Al.cells (zrep m.st.length [Value.bool false])).obj) := .push h _
  have n1 : (h.push (Al.cells (zrep m.st.length [Value.bool false])).obj).next = h.next + 1 := rfl
  rw [← eba] at c1
  show NS _ _ _ _ _ _ (upd _ _ (Value.slice (some ⟨h.next, 0, none⟩) m.st.length m.st.length)) _
  rw [← eba]
  generalize h.push (Al.cells (zrep m.st.length [Value.bool false])).obj = h1 at c1 t1 n1 ⊢
  refine NS_b 1 (by kernel_rfl) ?_
  refine NS_new (Al.cells (zrep m.st.length [Value.int .i64 0])) (.sl m.st.length m.st.length) rfl (by kernel_rfl) rfl rfl (by kernel_rfl) (ev_mk (P := Tryz.prog) (el := 2) (z := Value.int .i64 0) (by_ := 8) (by kernel_rfl) (by kernel_rfl) (by kernel_rfl) (by kernel_rfl) rfl (by omega) (by kernel_rfl) (by kernel_rfl)) ?_
  obtain ⟨bb, ebb⟩ : ∃ bb, bb = h1.next := ⟨_, rfl⟩
  have c2 : Cl (h1.push (Al.cells (zrep m.st.length [Value.int .i64 0])).obj) h1.next (zrep m.st.length [Value.int .i64 0]) := Cl.new h1 _
  have t2 : Sm Nix h1 (h1.push (Al.cells (zrep m.st.length [Value.int .i64 0])).obj) := .push h1 _
  have n2 : (h1.push (Al.cells (zrep m.st.length [Value.int .i64 0])).obj).next = h1.next + 1 := rfl
  rw [← ebb] at c2
  show NS _ _ _ _ _ _ (upd _ _ (Value.slice (some ⟨h1.next, 0, none⟩) m.st.length m.st.length)) _
  rw [← ebb]
  generalize h1.push (Al.cells (zrep m.st.length [Value.int .i64 0])).obj = h2 at c2 t2 n2 ⊢
  refine NS_b 2 (by kernel_rfl) ?_
  refine NS_nil ?_
  have c0 := (H.cl.ext t1).ext t2
  obtain ⟨g1, e1, d1, s1, _⟩ := c0.store (P := Tryz.prog) (T := 4) (o := 2) (v := .bool true) (by kernel_rfl) rfl rfl (by simp)
  obtain ⟨g2, e2, d2, s2, _⟩ := d1.store (P := Tryz.prog) (T := 32) (o := 3) (v := Value.slice (some ⟨ba, 0, none⟩) m.st.length m.st.length) (by kernel_rfl) rfl rfl (by simp)
  obtain ⟨g3, e3, d3, s3, _⟩ := d2.store (P := Tryz.prog) (T := 64) (o := 4) (v := Value.slice (some ⟨bb, 0, none⟩) m.st.length m.st.length) (by kernel_rfl) rfl rfl (by simp)
  obtain ⟨g4, e4, d4, s4, _⟩ := d3.store (P := Tryz.prog) (T := 157) (o := 5) (v := Value.slice none 0 0) (by kernel_rfl) rfl rfl (by simp)
  obtain ⟨g5, e5, d5, s5, _⟩ := d4.store (P := Tryz.prog) (T := 78) (o := 6) (v := Value.slice none 0 0) (by kernel_rfl) rfl rfl (by simp)
  have sA : Sm (fun x => x = f) h2 g5 := (((s1.then s2).then s3).then s4).then s5
  have H3 : RR g5 f (openV V ba bb m.st.length) (openG m m.st.length 0 0 m.st.length) := H.open_ (t1.ext t2) (c1.ext t2) c2 (by omega) (by omega) (by omega) sA d5
  have T3 : Sm (RF f V) h g5 := (t1.ext t2).of.trans sA (fun x hx => .inl (.inl hx))
  have B3 : ∀ b, RF f (openV V ba bb m.st.length) b → RF f V b ∨ h.next ≤ b := fun b hb => (openV_RF hb).elim .inl (fun e => .inr (by omega))
  have N3 : ∀ i j, openV V ba bb m.st.length (.cc i j) = Value.slice none 0 0 := fun _ _ => rfl
  generalize openV V ba bb m.st.length = V3 at H3 B3 N3
  refine L_st _ rfl rfl rfl (by kernel_rfl) (by kernel_rfl) (e1) ?_
  refine L_nil ⟨rfl, ?_⟩
  refine D_e (e := 14) (l := [12, 13]) (s' := [2, 3, 4, 7, 8]) (by kernel_rfl) (by kernel_rfl) rfl (by kernel_rfl) (Rk_noRead (by kernel_rfl)) ?_
  refine NS_b 2 (by kernel_rfl) ?_
  refine NS_nil ?_
  refine L_st _ rfl rfl rfl (by kernel_rfl) (by kernel_rfl) (e2) ?_
  refine L_nil ⟨rfl, ?_⟩
  refine D_e (e := 17) (l := [15, 16]) (s' := [3, 4]) (by kernel_rfl) (by kernel_rfl) rfl (by kernel_rfl) (Rk_noRead (by kernel_rfl)) ?_
  refine NS_b 2 (by kernel_rfl) ?_
  refine NS_nil ?_
  refine L_st _ rfl rfl rfl (by kernel_rfl) (by kernel_rfl) (e3) ?_
  refine L_nil ⟨rfl, ?_⟩
  refine D_e (e := 20) (l := [18, 19]) (s' := [4]) (by kernel_rfl) (by kernel_rfl) rfl (by kernel_rfl) (Rk_noRead (by kernel_rfl)) ?_
  refine NS_b 2 (by kernel_rfl) ?_
  refine NS_nil ?_
  refine L_st _ rfl rfl rfl (by kernel_rfl) (by kernel_rfl) (e4) ?_
  refine L_nil ⟨rfl, ?_⟩
  refine D_e (e := 23) (l := [21, 22]) (s' := []) (by kernel_rfl) (by kernel_rfl) rfl (by kernel_rfl) (Rk_noRead (by kernel_rfl)) ?_
  refine NS_b 2 (by kernel_rfl) ?_
  refine NS_nil ?_
  refine L_st _ rfl rfl rfl (by kernel_rfl) (by kernel_rfl) (e5) ?_
  refine L_nil ⟨rfl, ?_⟩
  refine D_l (l := []) (by kernel_rfl) (by kernel_rfl) Rk_nil ?_
  refine NS_nil ?_
  refine W_seq ?_
  refine W_seq ?_
  refine W_region ?_
  refine L_g 1 (by kernel_rfl) ?_
  refine L_nil ?_
  refine W_block ?_
  refine W_loop (fun j fr hh => ∃ i V9, i ≤ m.st.length ∧ j = m.st.length - i ∧ fr 0 = ptr f ∧ fr 1 = .int .i64 p ∧ fr 5 = .int .i64 m.st.length ∧ fr 6 = .int .i64 i ∧ RR hh f V9 (openG m m.st.length i i m.st.length) ∧ Sm (RF f V) h hh ∧ (∀ b, RF f V9 b → RF f V b ∨ h.next ≤ b) ∧ ∀ i j, V9 (.cc i j) = Value.slice none 0 0) (m.st.length) ?_ ?_
  ·
    exact ⟨0, _, Nat.zero_le _, rfl, by kernel_rfl, by kernel_rfl, by kernel_rfl, by kernel_rfl, H3, T3, B3, N3⟩
  rintro j1 fr1 h9 ⟨i, V9, hi, hj1, y0, y1, y5, y6, H9, T9, B9, N9⟩
  refine W_set (k := 0) y0 ?_
  refine W_set (k := 1) y1 ?_
  refine W_set (k := 5) y5 ?_
  refine W_set (k := 6) y6 ?_
  refine W_seq ?_
  refine W_seq ?_
  refine W_region ?_
  refine L_g 3 (by kernel_rfl) ?_
  refine L_nil ?_
  refine W_cond (decide ((i : Int) < (m.st.length : Nat))) (by kernel_rfl) (fun hb => ?_) (fun hb => ?_)
  ·
    have hlt : i < m.st.length := by simp at hb; omega
    refine W_skip ?_
    refine W_seq ?_
    refine W_block ?_
    refine W_seq ?_
    refine W_drawn (by kernel_rfl) ?_
    refine D_e (e := 8) (l := [0, 1, 2, 3, 4, 5, 6, 7]) (s' := [0]) (by kernel_rfl) (by kernel_rfl) rfl (by kernel_rfl) Rk_nil ?_
    refine NS_b 4 (by kernel_rfl) ?_
    refine NS_ld _ rfl rfl (by kernel_rfl) (by kernel_rfl) (by kernel_rfl) (H9.cl.ld (o := 5) (by kernel_rfl) rfl) ?_
    refine NS_b 1 (by kernel_rfl) ?_
    refine NS_newR (Al.cells (zrep m.st.length [Value.bool false])) (.sl m.st.length m.st.length) rfl (by kernel_rfl) rfl rfl (ev_mk (P := Tryz.prog) (el := 4) (z := Value.bool false) (by_ := 1) (by kernel_rfl) (by kernel_rfl) (by kernel_rfl) (by kernel_rfl) rfl (by omega) (by kernel_rfl) (by kernel_rfl)) (Rk_1 rfl rfl (Rk_1 rfl rfl (Rk_1 rfl rfl (Rk_1 rfl rfl (Rk_ld _ rfl rfl rfl (by kernel_rfl) ((H9.ext (.push h9 _)).cl.ld (o := 5) (by kernel_rfl) rfl) (by kernel_rfl) (Rk_1 rfl rfl (Rk_1 rfl rfl Rk_nil))))))) ?_
    obtain ⟨hr, ehr⟩ : ∃ hr, hr = h9.next := ⟨_, rfl⟩
    have cR : Cl (h9.push (Al.cells (zrep m.st.length [Value.bool false])).obj) h9.next (zrep m.st.length [Value.bool false]) := Cl.new h9 _
    have tR : Sm Nix h9 (h9.push (Al.cells (zrep m.st.length [Value.bool false])).obj) := .push h9 _
    have nR : (h9.push (Al.cells (zrep m.st.length [Value.bool false])).obj).next = h9.next + 1 := rfl
    rw [← ehr] at cR
    show NS _ _ _ _ _ _ (upd _ _ (Value.slice (some ⟨h9.next, 0, none⟩) m.st.length m.st.length)) _
    rw [← ehr]
    generalize h9.push (Al.cells (zrep m.st.length [Value.bool false])).obj = hR at cR tR nR ⊢
    have HR := H9.ext tR
    have tB : Sm Nix hR (hR.push (Al.cells [Value.slice (some ⟨hr, 0, none⟩) m.st.length m.st.length]).obj) := .push hR _
    obtain ⟨v', h1, h10, eA, cl0, cl1, sA, eS, H10, t10, b10⟩ := HR.rowO (o2 := fun _ => false) (n := m.st.length) (row := Value.slice (some ⟨hr, 0, none⟩) m.st.length m.st.length) (by have G := (cR.ws (n := m.st.length) (by rw [zrep_len]; simp)); rw [zrep_one] at G; exact G) (fun b hb e => by have := H9.lt e; have hb : hr = b := Option.some.inj hb; omega) tB (u := .slice (some ⟨hR.next, 0, none⟩) 1 1) ((Cl.new hR _).sd rfl) (by show i < _; omega)
    have HB := HR.ext tB
    refine NS_newR (Al.cells [Value.slice (some ⟨hr, 0, none⟩) m.st.length m.st.length]) (.sl 1 1) rfl (by kernel_rfl) rfl rfl (by kernel_rfl) (Rk_1 rfl rfl (Rk_1 rfl rfl (Rk_1 rfl rfl (Rk_1 rfl rfl (Rk_ld _ rfl rfl rfl (by kernel_rfl) (HB.cl.ld (o := 5) (by kernel_rfl) rfl) (by kernel_rfl) (Rk_1 rfl rfl (Rk_1 rfl rfl (Rk_1 rfl rfl Rk_nil)))))))) ?_
    generalize hR.push (Al.cells [Value.slice (some ⟨hr, 0, none⟩) m.st.length m.st.length]).obj = hB at tB eA cl0 sA b10 HB
    refine NS_nil ?_
    refine L_bi v' h1 rfl rfl (by kernel_rfl) (vs := [V9 .ot, .slice (some ⟨hR.next, 0, none⟩) 1 1]) (by kernel_rfl) (bi_append eA) ?_
    refine L_nil ⟨rfl, ?_⟩
    refine D_e (e := 11) (l := [9, 10]) (s' := []) (by kernel_rfl) (by kernel_rfl) rfl (by kernel_rfl) (Rk_noRead (by kernel_rfl)) ?_
    refine NS_b 2 (by kernel_rfl) ?_
    refine NS_nil ?_
    refine L_st _ rfl rfl rfl (by kernel_rfl) (by kernel_rfl) (eS) ?_
    have H10 : RR h10 f (ups (ups V9 (.or (openG m m.st.length i i m.st.length).so) (Value.slice (some ⟨hr, 0, none⟩) m.st.length m.st.length)) .ot v') (openG m m.st.length (i + 1) i 0) := by rw [← openG_O]; exact H10
    have T10 : Sm (RF f V) h h10 := (T9.ext tR).trans t10 (fun b hb => by
      rcases hb with e | e
      · exact .inl (.inl e)
      · exact B9 b (.inr ⟨_, e⟩))
    have B10 : ∀ b, RF f (ups (ups V9 (.or (openG m m.st.length i i m.st.length).so) (Value.slice (some ⟨hr, 0, none⟩) m.st.length m.st.length)) .ot v') b → RF f V b ∨ h.next ≤ b := fun b hb => by
      have := T9.nx
      have := tB.nx
      rcases b10 b hb with e | e | e
      · exact B9 b e
      · exact .inr (by omega)
      · have e : hr = b := Option.some.inj e
        exact .inr (by omega)
    have N10 : ∀ a c, (ups (ups V9 (.or (openG m m.st.length i i m.st.length).so) (Value.slice (some ⟨hr, 0, none⟩) m.st.length m.st.length)) .ot v') (.cc a c) = Value.slice none 0 0 := fun a c => by rw [ups_ne _ _ (by simp), ups_ne _ _ (by simp)]; exact N9 a c
    generalize ups (ups V9 (.or (openG m m.st.length i i m.st.length).so) (Value.slice (some ⟨hr, 0, none⟩) m.st.length m.st.length)) .ot v' = V10 at H10 B10 N10
    refine L_nil ⟨rfl, ?_⟩
    refine D_l (l := []) (by kernel_rfl) (by kernel_rfl) Rk_nil ?_
    refine NS_nil ?_
    refine W_seq ?_
    refine W_drawn (by kernel_rfl) ?_
    refine D_e (e := 8) (l := [0, 1, 2, 3, 4, 5, 6, 7]) (s' := [0]) (by kernel_rfl) (by kernel_rfl) rfl (by kernel_rfl) Rk_nil ?_
    refine NS_b 4 (by kernel_rfl) ?_
    refine NS_ld _ rfl rfl (by kernel_rfl) (by kernel_rfl) (by kernel_rfl) (H10.cl.ld (o := 6) (by kernel_rfl) rfl) ?_
    refine NS_b 1 (by kernel_rfl) ?_
    refine NS_newR (Al.cells (zrep m.st.length [Value.slice none 0 0])) (.sl m.st.length m.st.length) rfl (by kernel_rfl) rfl rfl (ev_mk (P := Tryz.prog) (el := 64) (z := Value.slice none 0 0) (by_ := 24) (by kernel_rfl) (by kernel_rfl) (by kernel_rfl) (by kernel_rfl) rfl (by omega) (by kernel_rfl) (by kernel_rfl)) (Rk_1 rfl rfl (Rk_1 rfl rfl (Rk_1 rfl rfl (Rk_1 rfl rfl (Rk_ld _ rfl rfl rfl (by kernel_rfl) ((H10.ext (.push h10 _)).cl.ld (o := 6) (by kernel_rfl) rfl) (by kernel_rfl) (Rk_1 rfl rfl (Rk_1 rfl rfl Rk_nil))))))) ?_
    obtain ⟨hr, ehr⟩ : ∃ hr, hr = h10.next := ⟨_, rfl⟩
    have cR : Cl (h10.push (Al.cells (zrep m.st.length [Value.slice none 0 0])).obj) h10.next (zrep m.st.length [Value.slice none 0 0]) := Cl.new h10 _
    have tR : Sm Nix h10 (h10.push (Al.cells (zrep m.st.length [Value.slice none 0 0])).obj) := .push h10 _
    have nR : (h10.push (Al.cells (zrep m.st.length [Value.slice none 0 0])).obj).next = h10.next + 1 := rfl
    rw [← ehr] at cR
    show NS _ _ _ _ _ _ (upd _ _ (Value.slice (some ⟨h10.next, 0, none⟩) m.st.length m.st.length)) _
    rw [← ehr]
    generalize h10.push (Al.cells (zrep m.st.length [Value.slice none 0 0])).obj = hR at cR tR nR ⊢
    have HR := H10.ext tR
    have tB : Sm Nix hR (hR.push (Al.cells [Value.slice (some ⟨hr, 0, none⟩) m.st.length m.st.length]).obj) := .push hR _
    obtain ⟨v', h1, h11, eA, cl0, cl1, sA, eS, H11, t11, b11⟩ := HR.rowC (n := m.st.length) (row := Value.slice (some ⟨hr, 0, none⟩) m.st.length m.st.length) (by have G := (cR.ws (n := m.st.length) (by rw [zrep_len]; simp)); rw [zrep_one] at G; rw [show (fun j => V10 (.cc (openG m m.st.length (i + 1) i 0).sc j)) = fun _ => Value.slice none 0 0 from funext fun j => N10 _ j]; exact G) (fun b hb e => by have := H10.lt e; have hb : hr = b := Option.some.inj hb; omega) tB (u := .slice (some ⟨hR.next, 0, none⟩) 1 1) ((Cl.new hR _).sd rfl) (by show i < _; omega)
    have HB := HR.ext tB
    refine NS_newR (Al.cells [Value.slice (some ⟨hr, 0, none⟩) m.st.length m.st.length]) (.sl 1 1) rfl (by kernel_rfl) rfl rfl (by kernel_rfl) (Rk_1 rfl rfl (Rk_1 rfl rfl (Rk_1 rfl rfl (Rk_1 rfl rfl (Rk_ld _ rfl rfl rfl (by kernel_rfl) (HB.cl.ld (o := 6) (by kernel_rfl) rfl) (by kernel_rfl) (Rk_1 rfl rfl (Rk_1 rfl rfl (Rk_1 rfl rfl Rk_nil)))))))) ?_
    generalize hR.push (Al.cells [Value.slice (some ⟨hr, 0, none⟩) m.st.length m.st.length]).obj = hB at tB eA cl0 sA b11 HB
    refine NS_nil ?_
    refine L_bi v' h1 rfl rfl (by kernel_rfl) (vs := [V10 .ct, .slice (some ⟨hR.next, 0, none⟩) 1 1]) (by kernel_rfl) (bi_append eA) ?_
    refine L_nil ⟨rfl, ?_⟩
    refine D_e (e := 11) (l := [9, 10]) (s' := []) (by kernel_rfl) (by kernel_rfl) rfl (by kernel_rfl) (Rk_noRead (by kernel_rfl)) ?_
    refine NS_b 2 (by kernel_rfl) ?_
    refine NS_nil ?_
    refine L_st _ rfl rfl rfl (by kernel_rfl) (by kernel_rfl) (eS) ?_
    have H11 : RR h11 f (ups (ups V10 (.cr (openG m m.st.length (i + 1) i 0).sc) (Value.slice (some ⟨hr, 0, none⟩) m.st.length m.st.length)) .ct v') (openG m m.st.length (i + 1) (i + 1) 0) := by rw [← openG_C]; exact H11
    have T11 : Sm (RF f V) h h11 := (T10.ext tR).trans t11 (fun b hb => by
      rcases hb with e | e
      · exact .inl (.inl e)
      · exact B10 b (.inr ⟨_, e⟩))
    have B11 : ∀ b, RF f (ups (ups V10 (.cr (openG m m.st.length (i + 1) i 0).sc) (Value.slice (some ⟨hr, 0, none⟩) m.st.length m.st.length)) .ct v') b → RF f V b ∨ h.next ≤ b := fun b hb => by
      have := T10.nx
      have := tB.nx
      rcases b11 b hb with e | e | e
      · exact B10 b e
      · exact .inr (by omega)
      · have e : hr = b := Option.some.inj e
        exact .inr (by omega)
    have N11 : ∀ a c, (ups (ups V10 (.cr (openG m m.st.length (i + 1) i 0).sc) (Value.slice (some ⟨hr, 0, none⟩) m.st.length m.st.length)) .ct v') (.cc a c) = Value.slice none 0 0 := fun a c => by rw [ups_ne _ _ (by simp), ups_ne _ _ (by simp)]; exact N10 a c
    generalize ups (ups V10 (.cr (openG m m.st.length (i + 1) i 0).sc) (Value.slice (some ⟨hr, 0, none⟩) m.st.length m.st.length)) .ct v' = V11 at H11 B11 N11
    refine L_nil ⟨rfl, ?_⟩
    refine D_l (l := []) (by kernel_rfl) (by kernel_rfl) Rk_nil ?_
    refine NS_nil ?_
    refine W_seq ?_
    refine W_region ?_
    refine L_g 1 (by kernel_rfl) ?_
    refine L_nil ?_
    refine W_block ?_
    refine W_loop (fun j fr hh => ∃ k V13, k ≤ m.st.length ∧ j = m.st.length - k ∧ fr 0 = ptr f ∧ fr 1 = .int .i64 p ∧ fr 5 = .int .i64 m.st.length ∧ fr 6 = .int .i64 i ∧ fr 7 = .int .i64 k ∧ RR hh f V13 (openG m m.st.length (i + 1) (i + 1) k) ∧ Sm (RF f V) h hh ∧ (∀ b, RF f V13 b → RF f V b ∨ h.next ≤ b) ∧ ∀ i j, V13 (.cc i j) = Value.slice none 0 0) (m.st.length) ?_ ?_
    ·
      exact ⟨0, _, Nat.zero_le _, rfl, by kernel_rfl, by kernel_rfl, by kernel_rfl, by kernel_rfl, by kernel_rfl, H11, T11, B11, N11⟩
    rintro j2 fr2 h13 ⟨k, V13, hk, hj2, y0, y1, y5, y6, y7, H13, T13, B13, N13⟩
    refine W_set (k := 0) y0 ?_
    refine W_set (k := 1) y1 ?_
    refine W_set (k := 5) y5 ?_
    refine W_set (k := 6) y6 ?_
    refine W_set (k := 7) y7 ?_
    refine W_seq ?_
    refine W_seq ?_
    refine W_region ?_
    refine L_g 3 (by kernel_rfl) ?_
    refine L_nil ?_
    refine W_cond (decide ((k : Int) < (m.st.length : Nat))) (by kernel_rfl) (fun hb => ?_) (fun hb => ?_)
    ·
      have hlt2 : k < m.st.length := by simp at hb; omega
      refine W_skip ?_
      refine W_seq ?_
      refine W_block ?_
      skip
      ·
        obtain ⟨po, pp, oi, ol, oj, _, os⟩ := H13.oAt (i := i) (j := k) (by show i < i + 1; omega) (by show k < if i < i + 1 then m.st.length else 0; rw [if_pos (by omega)]; exact hlt2)
        obtain ⟨h15, e15, H15, t15, n15⟩ := os (decide (i ≠ k))
        refine W_region ?_
        refine L_g 3 (by kernel_rfl) ?_
        refine L_ld _ rfl rfl (by kernel_rfl) (H13.cl.ld (o := 5) (by kernel_rfl) rfl) ?_
        refine L_g 1 (by kernel_rfl) ?_
        refine L_ix _ rfl rfl (by kernel_rfl) (by kernel_rfl) (oi) ?_
        refine L_ld _ rfl rfl (by kernel_rfl) (ol) ?_
        refine L_g 3 (by kernel_rfl) ?_
        refine L_i ((i : Int)) ((k : Int)) (.bool (decide (i ≠ k))) rfl rfl (by kernel_rfl) (by kernel_rfl) rfl (neq_nat i k) ?_
        refine L_ix _ rfl rfl (by kernel_rfl) (by kernel_rfl) (oj) ?_
        refine L_st _ rfl rfl rfl (by kernel_rfl) (by kernel_rfl) (e15) ?_
        refine L_nil ?_
        refine W_region ?_
        refine L_g 1 (by kernel_rfl) ?_
        refine L_i ((k : Int)) (1) (.int .i64 ((k + 1 : Nat) : Int)) rfl rfl (by kernel_rfl) (by kernel_rfl) rfl (inc_ok (by omega)) ?_
        refine L_g 1 (by kernel_rfl) ?_
        refine L_nil ?_
        exact ⟨m.st.length - (k + 1), by omega, k + 1, _, by omega, rfl, by kernel_rfl, by kernel_rfl, by kernel_rfl, by kernel_rfl, by kernel_rfl, by rw [← openG_S m m.st.length i k hlt2]; exact H15, T13.trans t15 (fun b hb => B13 b (.inr ⟨_, hb⟩)), B13, N13⟩
    ·
      have hge2 : ¬ k < m.st.length := by simp at hb; omega
      refine W_exit ?_
      repeat with_reducible refine then_exit ?_
      refine exit_here ?_
      refine W_region ?_
      refine L_g 1 (by kernel_rfl) ?_
      refine L_i ((i : Int)) (1) (.int .i64 ((i + 1 : Nat) : Int)) rfl rfl (by kernel_rfl) (by kernel_rfl) rfl (inc_ok (by omega)) ?_
      refine L_g 1 (by kernel_rfl) ?_
      refine L_nil ?_
      have hkn : k = m.st.length := by omega
      subst hkn
      exact ⟨m.st.length - (i + 1), by omega, i + 1, _, by omega, rfl, by kernel_rfl, by kernel_rfl, by kernel_rfl, by kernel_rfl, H13, T13, B13, N13⟩
  ·
    have hge : i = m.st.length := by simp at hb; omega
    refine W_exit ?_
    repeat with_reducible refine then_exit ?_
    refine exit_here ?_
    refine W_seq ?_
    refine W_region ?_
    refine L_g 2 (by kernel_rfl) ?_
    subst hge
    refine L_c rfl rfl (by kernel_rfl) (rrec_ok (K := K) H9 (openG_ok hO _ _ _) (openG_sn m _) hp hn hle hK) ?_
    rintro v8 h8 ⟨e8, V8, H8, t8, b8⟩
    dsimp only at e8 H8 t8
    refine L_nil ?_
    refine W_seq ?_
    refine W_region ?_
    refine L_g 1 (by kernel_rfl) ?_
    refine L_nil ?_
    refine W_ret ?_
    repeat first | with_reducible refine then_ret ?_ | with_reducible refine blk_ret ?_
    refine done_of (v := .int .i64 0) (.inl rfl) (by kernel_rfl) ?_
    exact ⟨rfl, V8, H8, T9.trans t8 B9, fun b hb => (b8 b hb).elim (B9 b) (fun e => .inr (Nat.le_trans T9.nx e))⟩
end
end Go.Proofs.YtdaedcoolcicoaaGreat
