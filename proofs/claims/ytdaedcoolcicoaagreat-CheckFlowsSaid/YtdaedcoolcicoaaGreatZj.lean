/- Flows as data, and what holds of them. -/
import Derived.Test.YtdaedcoolcicoaaGreatZi
namespace Go.Arm
noncomputable section
open Go Go.X

theorem kget_kset {κ β : Type} [DecidableEq κ] (k k' : κ) (y : β) : ∀ (m : List (κ × β)), kget (kset m k y) k' = if k = k' then some y else kget m k'
  | [] => by unfold kset kget kget; rfl
  | e :: r => by
    have ih := kget_kset k k' y r
    unfold kset
    by_cases h : e.1 = k
    · rw [if_pos h]
      unfold kget
      by_cases h2 : k = k'
      · rw [if_pos h2, if_pos h2]
      · rw [if_neg h2, if_neg h2, if_neg (by rw [h]; exact h2)]
    · rw [if_neg h]
      unfold kget
      by_cases h2 : e.1 = k'
      · rw [if_pos h2, if_pos h2, if_neg (fun h3 => h (by rw [h2, h3]))]
      · rw [if_neg h2, if_neg h2]; exact ih
/-- Each key stands once. -/
def kone {κ β : Type} (m : List (κ × β)) : Prop := (m.map (·.1)).Nodup
theorem kget_none {κ β : Type} [DecidableEq κ] {k : κ} : ∀ {m : List (κ × β)}, k ∉ m.map (·.1) → kget m k = none
  | [], _ => rfl
  | e :: r, h => by
    unfold kget
    rw [List.map_cons, List.mem_cons, not_or] at h
    rw [if_neg (fun e => h.1 e.symm)]
    exact kget_none h.2
theorem kget_kdel {κ β : Type} [DecidableEq κ] (k k' : κ) : ∀ {m : List (κ × β)}, kone m → kget (kdel m k) k' = if k = k' then none else kget m k'
  | [], _ => by unfold kdel kget; split <;> rfl
  | e :: r, hn => by
    unfold kone at hn
    rw [List.map_cons, List.nodup_cons] at hn
    have ih := kget_kdel k k' (m := r) hn.2
    unfold kdel
    by_cases h : e.1 = k
    · rw [if_pos h]
      by_cases h2 : k = k'
      · rw [if_pos h2, ← h2, ← h]; exact kget_none hn.1
      · rw [if_neg h2]
        conv => rhs; unfold kget
        rw [if_neg (by rw [h]; exact h2)]
    · rw [if_neg h]
      unfold kget
      by_cases h2 : e.1 = k'
      · rw [if_pos h2, if_pos h2, if_neg (fun h3 => h (by rw [h2, h3]))]
      · rw [if_neg h2, if_neg h2]; exact ih
theorem mem_kset {κ β : Type} [DecidableEq κ] {k x : κ} {y : β} : ∀ {m : List (κ × β)}, x ∈ (kset m k y).map (·.1) → x = k ∨ x ∈ m.map (·.1)
  | [], h => by simpa [kset] using h
  | e :: r, h => by
    unfold kset at h
    split at h
    · rename_i he
      rw [List.map_cons, List.mem_cons] at h
      rcases h with h | h
      · exact .inl h
      · exact .inr (List.mem_cons_of_mem _ h)
    · rw [List.map_cons, List.mem_cons] at h
      rcases h with h | h
      · exact .inr (by rw [h]; exact List.mem_cons_self)
      · rcases mem_kset h with h | h
        · exact .inl h
        · exact .inr (List.mem_cons_of_mem _ h)
theorem kone_kset {κ β : Type} [DecidableEq κ] (k : κ) (y : β) : ∀ {m : List (κ × β)}, kone m → kone (kset m k y)
  | [], _ => by simp [kset, kone]
  | e :: r, hn => by
    unfold kone at hn ⊢
    rw [List.map_cons, List.nodup_cons] at hn
    unfold kset
    split
    · rename_i he
      rw [List.map_cons, List.nodup_cons]
      exact ⟨by rw [← he]; exact hn.1, hn.2⟩
    · rename_i he
      rw [List.map_cons, List.nodup_cons]
      exact ⟨fun h => (mem_kset h).elim he hn.1, kone_kset k y hn.2⟩
theorem mem_kdel {κ β : Type} [DecidableEq κ] {k x : κ} : ∀ {m : List (κ × β)}, x ∈ (kdel m k).map (·.1) → x ∈ m.map (·.1)
  | [], h => h
  | e :: r, h => by
    unfold kdel at h
    split at h
    · exact List.mem_cons_of_mem _ h
    · rw [List.map_cons, List.mem_cons] at h
      rcases h with h | h
      · rw [h]; exact List.mem_cons_self
      · exact List.mem_cons_of_mem _ (mem_kdel h)
theorem kone_kdel {κ β : Type} [DecidableEq κ] (k : κ) : ∀ {m : List (κ × β)}, kone m → kone (kdel m k)
  | [], h => h
  | e :: r, hn => by
    unfold kone at hn ⊢
    rw [List.map_cons, List.nodup_cons] at hn
    unfold kdel
    split
    · exact hn.2
    · rw [List.map_cons, List.nodup_cons]
      exact ⟨fun h => hn.1 (mem_kdel h), kone_kdel k hn.2⟩

/-- What is on a channel. -/
inductive Th
  | num (n : Int)
  | mark
  deriving DecidableEq
structure Sh where
  st : List (Int × Int)
  ct : List ((Int × Int) × List Int)
  op : List ((Int × Int) × Bool)
structure Fl where
  st : List Int
  ws : List ((Int × Int) × List Th)
  sh : Option Sh
namespace Fl
def wr (x : Int) : Int := IntKind.i64.wrap x
def q (m : Fl) (w : Int × Int) : List Th := (kget m.ws w).getD []
def at_ (m : Fl) (p : Nat) : Int := (m.st[p]?).getD 0
def put (m : Fl) (w : Int × Int) (x : Th) : Fl := { m with ws := kset m.ws w (m.q w ++ [x]) }
def pass (m : Fl) (p q : Nat) (n : Int) : Fl := ({ m with st := m.st.set p (wr (m.at_ p - n)) } : Fl).put (p, q) (.num n)
/-- Marks are sent to all others of the first k. -/
def tell (m : Fl) (p : Nat) : Nat → Fl
  | 0 => m
  | k + 1 => if k = p then m.tell p k else (m.tell p k).put (p, k) .mark
def rec1 (m : Fl) (s : Sh) (p : Nat) : Fl := { m with sh := some { s with st := kset s.st p (m.at_ p) } }
def recd (m : Fl) (s : Sh) (p : Nat) : Fl := (m.rec1 s p).tell p m.st.length
def ctOf (s : Sh) (w : Int × Int) : List Int := (kget s.ct w).getD []
def isRec (s : Sh) (p : Int) : Bool := (kget s.st p).isSome
def isOpen (s : Sh) (w : Int × Int) : Bool := (kget s.op w).getD false
def arrN (m : Fl) (p q : Nat) (n : Int) : Fl :=
  { m with st := m.st.set q (wr (m.at_ q + n)), sh := m.sh.map fun s => if isRec s q && isOpen s (p, q) then { s with ct := kset s.ct (p, q) (ctOf s (p, q) ++ [n]) } else s }
def shut (m : Fl) (w : Int × Int) : Fl := { m with sh := m.sh.map fun s => { s with op := kdel s.op w } }
def arrM (m : Fl) (s : Sh) (p q : Nat) : Fl := (if isRec s q then m else m.recd s q).shut (p, q)
/-- The first thing on a channel arrives. A mark comes only where a snapshot was begun. -/
def dlv (m : Fl) (p q : Nat) : Fl := match m.q (p, q) with
  | [] => m
  | .num n :: r => ({ m with ws := kset m.ws (p, q) r } : Fl).arrN p q n
  | .mark :: r => (match m.sh with
    | some s => ({ m with ws := kset m.ws (p, q) r } : Fl).arrM s p q
    | none => m)
def opens (n : Nat) : List ((Int × Int) × Bool) := (List.range n).foldl (fun l (i : Nat) => (List.range n).foldl (fun l (k : Nat) => if i = k then l else kset l ((i : Int), (k : Int)) true) l) []
def begin_ (m : Fl) (p : Nat) : Fl := ({ m with sh := some ⟨[], [], opens m.st.length⟩ } : Fl).recd ⟨[], [], opens m.st.length⟩ p
def new_ (l : List Int) : Fl := ⟨l, [], none⟩
/-- Marks are on channels only where a snapshot was begun. -/
def okM (m : Fl) : Prop := m.sh = none → ∀ w, Th.mark ∉ m.q w
/-- How long queues are. -/
def le (m : Fl) (k : Nat) : Prop := ∀ w, (m.q w).length ≤ k
def leC (m : Fl) (k : Nat) : Prop := ∀ s, m.sh = some s → ∀ w, (ctOf s w).length ≤ k
end Fl
end
end Go.Arm
namespace Go.Arm
noncomputable section
open Go Go.X
namespace Fl
variable {m : Fl} {s : Sh} {k p q' n : Nat} {w w' : Int × Int} {x : Th}

theorem q_put : (m.put w x).q w' = if w = w' then m.q w ++ [x] else m.q w' := by
  unfold put q
  rw [kget_kset]
  split <;> rfl
theorem le_put (h : m.le k) : (m.put w x).le (k + 1) := by
  intro w'
  rw [q_put]
  split
  · rw [List.length_append]; have := h w; simp; omega
  · have := h w'; omega
theorem le_mono {k' : Nat} (h : m.le k) (hk : k ≤ k') : m.le k' := fun w => Nat.le_trans (h w) hk
theorem st_put : (m.put w x).st = m.st := rfl
theorem sh_put : (m.put w x).sh = m.sh := rfl
theorem st_tell (m : Fl) (p : Nat) : ∀ k, (m.tell p k).st = m.st
  | 0 => rfl
  | k + 1 => by unfold tell; split; · exact st_tell m p k
                · exact st_tell m p k
theorem sh_tell (m : Fl) (p : Nat) : ∀ k, (m.tell p k).sh = m.sh
  | 0 => rfl
  | k + 1 => by unfold tell; split; · exact sh_tell m p k
                · exact sh_tell m p k
theorem le_tell (h : m.le n) (p : Nat) : ∀ k, (m.tell p k).le (n + k)
  | 0 => h
  | k + 1 => by
    unfold tell
    have ih := le_tell h p k
    split
    · exact le_mono ih (by omega)
    · exact le_put ih
theorem q_tell (m : Fl) (p : Nat) (a b : Int) : ∀ k : Nat, (m.tell p k).q (a, b) = if a = p ∧ b ≠ p ∧ 0 ≤ b ∧ b < k then m.q (a, b) ++ [.mark] else m.q (a, b)
  | 0 => by unfold tell; rw [if_neg (by omega)]
  | k + 1 => by
    have ih := q_tell m p a b k
    unfold tell
    split
    · rename_i hk
      rw [ih]
      by_cases h : a = p ∧ b ≠ p ∧ 0 ≤ b ∧ b < k
      · rw [if_pos h, if_pos (by omega)]
      · rw [if_neg h, if_neg (by omega)]
    · rename_i hk
      rw [q_put]
      by_cases h : ((p : Int), (k : Int)) = (a, b)
      · cases h
        rw [if_pos rfl, if_pos (by omega), ih, if_neg (by omega)]
      · rw [if_neg h, ih]
        have h' : ¬ (a = p ∧ b = k) := fun e => h (by rw [e.1, e.2])
        by_cases h2 : a = p ∧ b ≠ p ∧ 0 ≤ b ∧ b < k
        · rw [if_pos h2, if_pos (by omega)]
        · rw [if_neg h2, if_neg (by omega)]
theorem st_recd : (m.recd s p).st = m.st := st_tell _ _ _
theorem sh_recd : (m.recd s p).sh = some { s with st := kset s.st p (m.at_ p) } := sh_tell _ _ _
theorem q_recd (a b : Int) : (m.recd s p).q (a, b) = if a = p ∧ b ≠ p ∧ 0 ≤ b ∧ b < m.st.length then m.q (a, b) ++ [.mark] else m.q (a, b) := q_tell _ _ _ _ _
theorem le_recd (h : m.le k) : (m.recd s p).le (k + m.st.length) := le_tell (m := m.rec1 s p) h p _
theorem st_pass {v : Int} : (m.pass p n v).st = m.st.set p (wr (m.at_ p - v)) := rfl
theorem sh_pass {v : Int} : (m.pass p n v).sh = m.sh := rfl
theorem q_pass {v : Int} : (m.pass p n v).q w' = if ((p : Int), (n : Int)) = w' then m.q (p, n) ++ [.num v] else m.q w' := q_put (m := { m with st := m.st.set p (wr (m.at_ p - v)) })
theorem le_pass {v : Int} (h : m.le k) : (m.pass p n v).le (k + 1) := le_put (m := { m with st := m.st.set p (wr (m.at_ p - v)) }) h
/-- A channel's first thing is taken. -/
def drop1 (m : Fl) (w : Int × Int) (r : List Th) : Fl := { m with ws := kset m.ws w r }
theorem q_drop1 {r : List Th} : (m.drop1 w r).q w' = if w = w' then r else m.q w' := by
  unfold drop1 q
  rw [kget_kset]
  split <;> rfl
theorem le_drop1 {r : List Th} (h : m.le k) (hr : r.length ≤ k) : (m.drop1 w r).le k := by
  intro w'
  rw [q_drop1]
  split
  · exact hr
  · exact h w'
theorem dlv_nil {a b : Nat} (h : m.q (a, b) = []) : m.dlv a b = m := by unfold dlv; rw [h]
theorem dlv_num {a b : Nat} {v : Int} {r : List Th} (h : m.q (a, b) = .num v :: r) : m.dlv a b = (m.drop1 (a, b) r).arrN a b v := by unfold dlv; rw [h]; rfl
theorem dlv_mark {a b : Nat} {r : List Th} (h : m.q (a, b) = .mark :: r) (hs : m.sh = some s) : m.dlv a b = (m.drop1 (a, b) r).arrM s a b := by
  have e : m.dlv a b = (match m.sh with | some s => (m.drop1 (a, b) r).arrM s a b | none => m) := by unfold dlv; rw [h]; rfl
  rw [e]
  split
  · rename_i s' hs'; rw [hs] at hs'; cases hs'; rfl
  · rename_i hs'; rw [hs] at hs'; cases hs'
theorem q_arrN {a b : Nat} {v : Int} : (m.arrN a b v).q w' = m.q w' := rfl
theorem st_arrN {a b : Nat} {v : Int} : (m.arrN a b v).st = m.st.set b (wr (m.at_ b + v)) := rfl
theorem sh_arrN {a b : Nat} {v : Int} : (m.arrN a b v).sh = m.sh.map fun s => if isRec s b && isOpen s (a, b) then { s with ct := kset s.ct (a, b) (ctOf s (a, b) ++ [v]) } else s := rfl
theorem q_shut : (m.shut w).q w' = m.q w' := rfl
theorem st_shut : (m.shut w).st = m.st := rfl
theorem sh_shut : (m.shut w).sh = m.sh.map fun s => { s with op := kdel s.op w } := rfl
theorem st_arrM {a b : Nat} : (m.arrM s a b).st = m.st := by
  unfold arrM
  rw [st_shut]
  split
  · rfl
  · exact st_recd
theorem st_dlv {a b : Nat} : (m.dlv a b).st.length = m.st.length := by
  cases h : m.q (a, b) with
  | nil => rw [dlv_nil h]
  | cons x r =>
    cases x with
    | num v => rw [dlv_num h, st_arrN, List.length_set]; rfl
    | mark =>
      cases hs : m.sh with
      | none => unfold dlv; rw [h, hs]
      | some s => rw [dlv_mark h hs, st_arrM]; rfl
theorem le_dlv {a b : Nat} (h : m.le k) : (m.dlv a b).le (k + m.st.length) := by
  cases hq : m.q (a, b) with
  | nil => rw [dlv_nil hq]; exact le_mono h (by omega)
  | cons x r =>
    have hr : r.length ≤ k := by have := h (a, b); rw [hq] at this; simp at this; omega
    cases x with
    | num v => rw [dlv_num hq]; exact le_mono (k := k) (fun w => le_drop1 h hr w) (by omega)
    | mark =>
      cases hs : m.sh with
      | none => unfold dlv; rw [hq, hs]; exact le_mono h (by omega)
      | some s =>
        rw [dlv_mark hq hs]
        unfold arrM
        intro w
        rw [q_shut]
        split
        · exact le_mono (le_drop1 h hr) (by omega) w
        · exact le_recd (m := m.drop1 (a, b) r) (le_drop1 h hr) w
theorem ctOf_set {l : List Int} : ctOf { s with ct := kset s.ct w l } w' = if w = w' then l else ctOf s w' := by
  unfold ctOf
  rw [kget_kset]
  split <;> rfl
theorem leC_arrN {a b : Nat} {v : Int} (h : m.leC k) : (m.arrN a b v).leC (k + 1) := by
  intro s hs w
  rw [sh_arrN] at hs
  cases hm : m.sh with
  | none => rw [hm] at hs; cases hs
  | some s0 =>
    rw [hm, Option.map_some] at hs
    have h0 := h s0 hm
    split at hs
    · cases hs
      rw [ctOf_set]
      split
      · have := h0 (a, b); simp; omega
      · have := h0 w; omega
    · cases hs; have := h0 w; omega
theorem leC_dlv {a b : Nat} (h : m.leC k) : (m.dlv a b).leC (k + 1) := by
  have up : m.leC (k + 1) := fun s hs w => by have := h s hs w; omega
  cases hq : m.q (a, b) with
  | nil => rw [dlv_nil hq]; exact up
  | cons x r =>
    cases x with
    | num v => rw [dlv_num hq]; exact leC_arrN (m := m.drop1 (a, b) r) h
    | mark =>
      cases hs : m.sh with
      | none => unfold dlv; rw [hq, hs]; exact up
      | some s =>
        rw [dlv_mark hq hs]
        intro s' hs' w
        unfold arrM at hs'
        rw [sh_shut] at hs'
        have h0 := h s hs w
        split at hs'
        · have hs' : (m.sh.map fun s => ({ s with op := kdel s.op (a, b) } : Sh)) = some s' := hs'
          rw [hs] at hs'
          cases hs'
          exact Nat.le_succ_of_le h0
        · rw [sh_recd] at hs'
          cases hs'
          exact Nat.le_succ_of_le h0
theorem okM_put (h : m.okM) (hx : x = .mark → m.sh ≠ none) : (m.put w x).okM := by
  intro hs w' hm
  rw [q_put] at hm
  split at hm
  · rcases List.mem_append.1 hm with hm | hm
    · exact h hs _ hm
    · simp at hm; exact hx hm.symm hs
  · exact h hs _ hm
theorem okM_some {s : Sh} (h : m.sh = some s) : m.okM := fun e => by rw [h] at e; cases e
theorem okM_pass {v : Int} (h : m.okM) : (m.pass p n v).okM := okM_put (m := { m with st := m.st.set p (wr (m.at_ p - v)) }) h (fun e => by cases e)
theorem okM_dlv {a b : Nat} (h : m.okM) : (m.dlv a b).okM := by
  cases hq : m.q (a, b) with
  | nil => rw [dlv_nil hq]; exact h
  | cons x r =>
    cases x with
    | num v =>
      rw [dlv_num hq]
      intro hs w hm
      have hs : m.sh = none := by
        rw [sh_arrN] at hs
        cases hm : m.sh with
        | none => rfl
        | some s =>
          have hm : (m.drop1 (a, b) r).sh = some s := hm
          rw [hm] at hs; cases hs
      rw [q_arrN, q_drop1] at hm
      split at hm
      · rename_i e
        refine h hs (a, b) ?_
        rw [hq]; exact List.mem_cons_of_mem _ hm
      · exact h hs w hm
    | mark =>
      cases hs : m.sh with
      | none => exact absurd (by rw [hq]; exact List.mem_cons_self) (h hs (a, b))
      | some s =>
        rw [dlv_mark hq hs]
        unfold arrM
        split
        · exact okM_some (s := { s with op := kdel s.op (a, b) }) (by rw [sh_shut]; show m.sh.map _ = _; rw [hs]; rfl)
        · exact okM_some (by rw [sh_shut, sh_recd]; rfl)
theorem okM_new (l : List Int) : (new_ l).okM := fun _ w h => by cases h
theorem le_new (l : List Int) : (new_ l).le 0 := fun w => Nat.le_refl 0
theorem leC_new (l : List Int) : (new_ l).leC 0 := fun s h => by cases h
theorem leC_pass {v : Int} (h : m.leC k) : (m.pass p n v).leC k := h
theorem st_begin : (m.begin_ p).st = m.st := st_recd
theorem sh_begin : (m.begin_ p).sh = some ⟨[((p : Int), m.at_ p)], [], opens m.st.length⟩ := sh_recd
theorem q_begin (a b : Int) : (m.begin_ p).q (a, b) = if a = p ∧ b ≠ p ∧ 0 ≤ b ∧ b < m.st.length then m.q (a, b) ++ [.mark] else m.q (a, b) := q_recd (m := { m with sh := _ }) a b
theorem le_begin (h : m.le k) : (m.begin_ p).le (k + m.st.length) := le_recd (m := { m with sh := _ }) h
theorem leC_begin : (m.begin_ p).leC 0 := by
  intro s hs w
  rw [sh_begin] at hs
  cases hs
  exact Nat.le_refl _
theorem okM_begin : (m.begin_ p).okM := okM_some sh_begin
end Fl
end
end Go.Arm
namespace Go.Arm
noncomputable section
open Go Go.X
namespace Fl
theorem k01 : ((((0 : Nat) : Int)), (((1 : Nat) : Int))) = ((0 : Int), (1 : Int)) := rfl
theorem k10 : ((((1 : Nat) : Int)), (((0 : Nat) : Int))) = ((1 : Int), (0 : Int)) := rfl

theorem wr_in {x : Int} (h : -9223372036854775808 ≤ x ∧ x ≤ 9223372036854775807) : wr x = x := by
  unfold wr
  rw [IntKind.wrap_i64]
  omega

/-- Two processes. -/
structure Is (m : Fl) (x0 x1 : Int) (a b : List Th) (sh : Option Sh) : Prop where
  st : m.st = [x0, x1]
  a : m.q (0, 1) = a
  b : m.q (1, 0) = b
  sh : m.sh = sh
variable {m : Fl} {x0 x1 v : Int} {a b r : List Th} {sh : Option Sh} {s : Sh}

theorem Is.new : Is (new_ [0, 0]) 0 0 [] [] none := ⟨rfl, rfl, rfl, rfl⟩
theorem Is.pass (h : Is m x0 x1 a b sh) (v : Int) : Is (m.pass 0 1 v) (wr (x0 - v)) x1 (a ++ [.num v]) b sh := by
  refine ⟨?_, ?_, ?_, h.sh⟩
  · rw [st_pass, h.st]; unfold at_; rw [h.st]; rfl
  · rw [q_pass, if_pos k01]; show m.q (0, 1) ++ _ = _; rw [h.a]
  · rw [q_pass, if_neg (by decide)]; exact h.b
theorem Is.nil01 (h : Is m x0 x1 [] b sh) : m.dlv 0 1 = m := dlv_nil h.a
theorem Is.nil10 (h : Is m x0 x1 a [] sh) : m.dlv 1 0 = m := dlv_nil h.b
/-- Whether what arrives at the second process is recorded. -/
def Rs (s : Sh) : Bool := isRec s 1 && isOpen s (0, 1)
def got (s : Sh) (v : Int) : Sh := if Rs s then { s with ct := kset s.ct (0, 1) (ctOf s (0, 1) ++ [v]) } else s
theorem Is.num (h : Is m x0 x1 (.num v :: r) b sh) : Is (m.dlv 0 1) x0 (wr (x1 + v)) r b (sh.map (got · v)) := by
  have e := dlv_num (m := m) (a := 0) (b := 1) (v := v) (r := r) h.a
  refine ⟨?_, ?_, ?_, ?_⟩
  · rw [e, st_arrN]; unfold at_; show m.st.set 1 (wr (m.st[1]?.getD 0 + v)) = _; rw [h.st]; rfl
  · rw [e, q_arrN, q_drop1, if_pos k01]
  · rw [e, q_arrN, q_drop1, if_neg (by decide)]; exact h.b
  · rw [e, sh_arrN]; show m.sh.map _ = _; rw [h.sh]; rfl
theorem Is.mark01 (h : Is m x0 x1 (.mark :: r) b (some s)) (hr : isRec s 1 = true) : Is (m.dlv 0 1) x0 x1 r b (some { s with op := kdel s.op (0, 1) }) := by
  have e := dlv_mark (m := m) (a := 0) (b := 1) (r := r) h.a h.sh
  have e2 : m.dlv 0 1 = (m.drop1 (0, 1) r).shut (0, 1) := by rw [e]; unfold arrM; rw [if_pos (show isRec s (((1 : Nat)) : Int) = true from hr)]; rfl
  rw [e2]
  refine ⟨h.st, ?_, ?_, ?_⟩
  · rw [q_shut, q_drop1, if_pos rfl]
  · rw [q_shut, q_drop1, if_neg (by decide)]; exact h.b
  · rw [sh_shut]; show m.sh.map _ = _; rw [h.sh]; rfl
theorem Is.mark10 (h : Is m x0 x1 a (.mark :: r) (some s)) (hr : isRec s 0 = true) : Is (m.dlv 1 0) x0 x1 a r (some { s with op := kdel s.op (1, 0) }) := by
  have e := dlv_mark (m := m) (a := 1) (b := 0) (r := r) h.b h.sh
  have e2 : m.dlv 1 0 = (m.drop1 (1, 0) r).shut (1, 0) := by rw [e]; unfold arrM; rw [if_pos (show isRec s (((0 : Nat)) : Int) = true from hr)]; rfl
  rw [e2]
  refine ⟨h.st, ?_, ?_, ?_⟩
  · rw [q_shut, q_drop1, if_neg (by decide)]; exact h.a
  · rw [q_shut, q_drop1, if_pos rfl]
  · rw [sh_shut]; show m.sh.map _ = _; rw [h.sh]; rfl
theorem Is.rec01 (h : Is m x0 x1 (.mark :: r) b (some s)) (hr : isRec s 1 = false) : Is (m.dlv 0 1) x0 x1 r (b ++ [.mark]) (some { s with st := kset s.st 1 x1, op := kdel s.op (0, 1) }) := by
  have e := dlv_mark (m := m) (a := 0) (b := 1) (r := r) h.a h.sh
  have e2 : m.dlv 0 1 = ((m.drop1 (0, 1) r).recd s 1).shut (0, 1) := by
    rw [e]; unfold arrM
    rw [if_neg (by show ¬ isRec s 1 = true; rw [hr]; decide)]; rfl
  rw [e2]
  have hl : (m.drop1 (0, 1) r).st.length = 2 := by show m.st.length = 2; rw [h.st]; rfl
  refine ⟨?_, ?_, ?_, ?_⟩
  · rw [st_shut, st_recd]; exact h.st
  · rw [q_shut, q_recd, if_neg (by omega), q_drop1, if_pos rfl]
  · rw [q_shut, q_recd, if_pos (by rw [hl]; decide), q_drop1, if_neg (by decide), h.b]
  · rw [sh_shut, sh_recd]
    unfold at_
    show some _ = _
    have : (m.drop1 (0, 1) r).st = [x0, x1] := h.st
    rw [this]; rfl
theorem Is.rec10 (h : Is m x0 x1 a (.mark :: r) (some s)) (hr : isRec s 0 = false) : Is (m.dlv 1 0) x0 x1 (a ++ [.mark]) r (some { s with st := kset s.st 0 x0, op := kdel s.op (1, 0) }) := by
  have e := dlv_mark (m := m) (a := 1) (b := 0) (r := r) h.b h.sh
  have e2 : m.dlv 1 0 = ((m.drop1 (1, 0) r).recd s 0).shut (1, 0) := by
    rw [e]; unfold arrM
    rw [if_neg (by show ¬ isRec s 0 = true; rw [hr]; decide)]; rfl
  rw [e2]
  have hl : (m.drop1 (1, 0) r).st.length = 2 := by show m.st.length = 2; rw [h.st]; rfl
  refine ⟨?_, ?_, ?_, ?_⟩
  · rw [st_shut, st_recd]; exact h.st
  · rw [q_shut, q_recd, if_pos (by rw [hl]; decide), q_drop1, if_neg (by decide), h.a]
  · rw [q_shut, q_recd, if_neg (by omega), q_drop1, if_pos rfl]
  · rw [sh_shut, sh_recd]
    unfold at_
    show some _ = _
    have : (m.drop1 (1, 0) r).st = [x0, x1] := h.st
    rw [this]; rfl
def opens2 : List ((Int × Int) × Bool) := [((0, 1), true), ((1, 0), true)]
theorem Is.begin0 (h : Is m x0 x1 a b sh) : Is (m.begin_ 0) x0 x1 (a ++ [.mark]) b (some ⟨[(0, x0)], [], opens2⟩) := by
  have hl : m.st.length = 2 := by rw [h.st]; rfl
  refine ⟨st_begin.trans h.st, ?_, ?_, ?_⟩
  · rw [q_begin, hl, if_pos (by decide), h.a]
  · rw [q_begin, if_neg (by omega), h.b]
  · rw [sh_begin, hl]; unfold at_; rw [h.st]; rfl
theorem Is.begin1 (h : Is m x0 x1 a b sh) : Is (m.begin_ 1) x0 x1 a (b ++ [.mark]) (some ⟨[(1, x1)], [], opens2⟩) := by
  have hl : m.st.length = 2 := by rw [h.st]; rfl
  refine ⟨st_begin.trans h.st, ?_, ?_, ?_⟩
  · rw [q_begin, if_neg (by omega), h.a]
  · rw [q_begin, hl, if_pos (by decide), h.b]
  · rw [sh_begin, hl]; unfold at_; rw [h.st]; rfl

/-! Many steps. -/
def two (k : Nat) : Int := 2 ^ k
theorem two_pos (k : Nat) : 1 ≤ two k := by
  unfold two
  induction k with
  | zero => decide
  | succ k ih => rw [Int.pow_succ]; omega
theorem two_succ (k : Nat) : two (k + 1) = two k + two k := by unfold two; rw [Int.pow_succ]; omega
theorem two_mono {k l : Nat} (h : k ≤ l) : two k ≤ two l := by
  induction l with
  | zero => rw [Nat.le_zero.1 h]; exact Int.le_refl _
  | succ l ih =>
    by_cases e : k = l + 1
    · rw [e]; exact Int.le_refl _
    · have := ih (by omega); rw [two_succ]; have := two_pos l; omega
theorem two_60 : two 60 = 1152921504606846976 := by decide
def passes (s : Nat) : Nat → Fl → Fl
  | 0, m => m
  | k + 1, m => (passes s k m).pass 0 1 (two (s + k))
/-- The numbers 2^s .. 2^(s+k-1). -/
def pw (s : Nat) : Nat → List Int
  | 0 => []
  | k + 1 => two s :: pw (s + 1) k
theorem pw_snoc : ∀ (s k : Nat), pw s (k + 1) = pw s k ++ [two (s + k)]
  | s, 0 => rfl
  | s, k + 1 => by
    have := pw_snoc (s + 1) k
    unfold pw
    rw [this]
    rw [show s + 1 + k = s + (k + 1) by omega]; rfl
theorem pw_len : ∀ (s k : Nat), (pw s k).length = k
  | s, 0 => rfl
  | s, k + 1 => by unfold pw; rw [List.length_cons, pw_len]
theorem pw_get : ∀ (s k i : Nat), i < k → (pw s k)[i]? = some (two (s + i))
  | s, 0, i, h => by omega
  | s, k + 1, 0, h => rfl
  | s, k + 1, i + 1, h => by
    unfold pw
    rw [List.getElem?_cons_succ, pw_get (s + 1) k i (by omega)]
    congr 2; omega
theorem pw_app : ∀ (s k l : Nat), pw s k ++ pw (s + k) l = pw s (k + l)
  | s, 0, l => by rw [Nat.zero_add]; rfl
  | s, k + 1, l => by
    have := pw_app (s + 1) k l
    have e : s + (k + 1) = s + 1 + k := by omega
    have e2 : k + 1 + l = (k + l) + 1 := by omega
    rw [e, e2]
    show two s :: (pw (s + 1) k ++ pw (s + 1 + k) l) = two s :: pw (s + 1) (k + l)
    rw [this]
def nums (l : List Int) : List Th := l.map .num
theorem Is.passes {s0 : Nat} (h : Is m (-(two s0 - 1)) x1 a b sh) : ∀ (k : Nat), s0 + k ≤ 60 → Is (passes s0 k m) (-(two (s0 + k) - 1)) x1 (a ++ nums (pw s0 k)) b sh
  | 0, _ => by unfold Fl.passes pw nums; simpa using h
  | k + 1, hk => by
    have ih := Is.passes h k (by omega)
    have := ih.pass (two (s0 + k))
    have e : wr (-(two (s0 + k) - 1) - two (s0 + k)) = -(two (s0 + (k + 1)) - 1) := by
      have h1 := two_mono (k := s0 + k) (l := 60) (by omega)
      have h2 := two_pos (s0 + k)
      rw [two_60] at h1
      rw [← Nat.add_assoc, two_succ, wr_in (by omega)]; omega
    rw [e] at this
    unfold Fl.passes
    rw [pw_snoc]
    unfold nums at this ⊢
    rw [List.map_append, ← List.append_assoc]
    exact this
/-- A step is taken many times. -/
def rep (g : Fl → Fl) : Nat → Fl → Fl
  | 0, m => m
  | k + 1, m => g (rep g k m)
theorem rep_add (g : Fl → Fl) (k : Nat) (m : Fl) : ∀ l, rep g (k + l) m = rep g l (rep g k m)
  | 0 => rfl
  | l + 1 => by rw [← Nat.add_assoc]; unfold rep; rw [rep_add g k m l]
theorem rep_one (g : Fl → Fl) (k : Nat) (m : Fl) : rep g (k + 1) m = rep g k (g m) := by rw [Nat.add_comm, rep_add]; rfl
theorem rep_id {g : Fl → Fl} {m : Fl} (h : g m = m) : ∀ k, rep g k m = m
  | 0 => rfl
  | k + 1 => by unfold rep; rw [rep_id h k, h]
def d01 (m : Fl) : Fl := m.dlv 0 1
def d2 (m : Fl) : Fl := (m.dlv 0 1).dlv 1 0
/-- Nothing that arrives is recorded. -/
def Off (sh : Option Sh) : Prop := ∀ s, sh = some s → Rs s = false
theorem off_got {sh : Option Sh} (h : Off sh) (v : Int) : sh.map (got · v) = sh := by
  cases sh with
  | none => rfl
  | some s => unfold got; rw [Option.map_some, if_neg (by rw [h s rfl]; decide)]
theorem two_add {g : Nat} (h : g < 60) : wr ((two g - 1) + two g) = two (g + 1) - 1 := by
  have h1 := two_mono (k := g) (l := 60) (by omega)
  have h2 := two_pos g
  rw [two_60] at h1
  rw [two_succ, wr_in (by omega)]; omega
theorem Is.drain (ho : Off sh) : ∀ (k : Nat) {g : Nat} {m : Fl}, g + k ≤ 60 → Is m x0 (two g - 1) (nums (pw g k) ++ r) b sh → Is (rep d01 k m) x0 (two (g + k) - 1) r b sh
  | 0, g, m, _, h => h
  | k + 1, g, m, hk, h => by
    rw [rep_one]
    have h1 := h.num (v := two g) (r := nums (pw (g + 1) k) ++ r)
    rw [off_got ho, two_add (by omega)] at h1
    have := Is.drain ho k (g := g + 1) (by omega) h1
    rw [show g + (k + 1) = g + 1 + k by omega]
    exact this
theorem Is.drain2 (ho : Off sh) : ∀ (k : Nat) {g : Nat} {m : Fl}, g + k ≤ 60 → Is m x0 (two g - 1) (nums (pw g k) ++ r) [] sh → Is (rep d2 k m) x0 (two (g + k) - 1) r [] sh
  | 0, g, m, _, h => h
  | k + 1, g, m, hk, h => by
    rw [rep_one]
    have h1 := h.num (v := two g) (r := nums (pw (g + 1) k) ++ r)
    rw [off_got ho, two_add (by omega)] at h1
    have e : d2 m = m.dlv 0 1 := h1.nil10
    rw [e]
    have := Is.drain2 ho k (g := g + 1) (by omega) h1
    rw [show g + (k + 1) = g + 1 + k by omega]
    exact this
/-- Numbers that arrive and are recorded. -/
theorem Is.catch : ∀ (l : List Int) {m : Fl} {x1 : Int} {s : Sh}, Rs s = true → Is m x0 x1 (nums l ++ r) [] (some s) → ∃ y s', Is (rep d2 l.length m) x0 y r [] (some s') ∧ s'.st = s.st ∧ s'.op = s.op ∧ ctOf s' (0, 1) = ctOf s (0, 1) ++ l
  | [], m, x1, s, _, h => ⟨_, s, h, rfl, rfl, by simp⟩
  | v :: l, m, x1, s, hr, h => by
    have h1 := h.num (v := v) (r := nums l ++ r)
    have hg : got s v = { s with ct := kset s.ct (0, 1) (ctOf s (0, 1) ++ [v]) } := by unfold got; rw [if_pos hr]
    rw [Option.map_some, hg] at h1
    have e : d2 m = m.dlv 0 1 := h1.nil10
    obtain ⟨y, s', h2, a1, a2, a3⟩ := Is.catch l (s := { s with ct := kset s.ct (0, 1) (ctOf s (0, 1) ++ [v]) }) hr h1
    refine ⟨y, s', ?_, a1, a2, ?_⟩
    · rw [List.length_cons, rep_one, e]; exact h2
    · rw [a3, ctOf_set, if_pos rfl, List.append_assoc]; rfl
/-- Once no channel is open, the snapshot stays as it is. -/
theorem Is.idle (ho : Rs s = false) : ∀ (k : Nat) {m : Fl} {x1 : Int} {l : List Int}, Is m x0 x1 (nums l) [] (some s) → (rep d2 k m).sh = some s
  | 0, m, x1, l, h => h.sh
  | k + 1, m, x1, [], h => by
    rw [rep_id (g := d2) (m := m) (by unfold d2; rw [h.nil01, h.nil10])]
    exact h.sh
  | k + 1, m, x1, v :: l, h => by
    rw [rep_one]
    have h1 := h.num (v := v) (r := nums l)
    rw [off_got (fun s' e => by cases e; exact ho)] at h1
    have e : d2 m = m.dlv 0 1 := h1.nil10
    rw [e]
    exact Is.idle ho k h1
end Fl
end
end Go.Arm
namespace Go.Arm
noncomputable section
open Go Go.X
namespace Fl
variable {m : Fl} {x0 x1 v : Int} {a b r : List Th} {sh : Option Sh} {s : Sh}

theorem Is.passes' (h : Is m x0 x1 a b sh) (s0 : Nat) : ∀ (k : Nat), ∃ y, Is (Fl.passes s0 k m) y x1 (a ++ nums (pw s0 k)) b sh
  | 0 => ⟨x0, by unfold Fl.passes pw nums; simpa using h⟩
  | k + 1 => by
    obtain ⟨y, ih⟩ := Is.passes' h s0 k
    refine ⟨wr (y - two (s0 + k)), ?_⟩
    unfold Fl.passes
    rw [pw_snoc]
    have := ih.pass (two (s0 + k))
    unfold nums at this ⊢
    rw [List.map_append, ← List.append_assoc]
    exact this
theorem nums_app (l l' : List Int) : nums (l ++ l') = nums l ++ nums l' := List.map_append
/-- b of a numbers were taken at first. -/
theorem Is.first (a b : Nat) (ha : a ≤ 60) (h : Is m x0 0 (nums (pw 0 a)) [] none) : Is (rep d01 b m) x0 (two (min a b) - 1) (nums (pw (min a b) (a - min a b))) [] none := by
  have ho : Off none := fun s e => by cases e
  have key : ∀ k, k ≤ a → Is (rep d01 k m) x0 (two k - 1) (nums (pw k (a - k))) [] none := by
    intro k hk
    have e : pw 0 a = pw 0 k ++ pw k (a - k) := by have := pw_app 0 k (a - k); rw [Nat.zero_add] at this; rw [this, show k + (a - k) = a by omega]
    rw [e, nums_app] at h
    have := Is.drain ho k (g := 0) (by omega) (show Is m x0 (two 0 - 1) (nums (pw 0 k) ++ nums (pw k (a - k))) [] none from h)
    rw [Nat.zero_add] at this
    exact this
  by_cases hb : b ≤ a
  · rw [Nat.min_eq_right hb]; exact key b hb
  · rw [Nat.min_eq_left (by omega), show b = a + (b - a) by omega, rep_add]
    have h1 := key a (Nat.le_refl _)
    rw [rep_id (g := d01) (m := rep d01 a m)]
    · exact h1
    · rw [Nat.sub_self] at h1
      exact h1.nil01
def cutsEnd (a b c : Nat) (sender : Bool) : Fl :=
  let m2 := rep d01 b (Fl.passes 0 a (new_ [0, 0]))
  let m4 := if sender then m2.begin_ 0 else (Fl.passes a c (m2.begin_ 1)).dlv 1 0
  rep d2 100 (Fl.passes (a + c) c m4)
theorem cuts_end {a b c : Nat} {sender : Bool} (ha : a < 20) (hb : b < 20) (hc : c < 20) {got sent : Nat} (hg : got = if sender then a else min a b) (hs : sent = if sender then a else a + c) :
    ∃ s, (cutsEnd a b c sender).sh = some s ∧ s.op = [] ∧ kget s.st 0 = some (-(two sent - 1)) ∧ kget s.st 1 = some (two got - 1) ∧ ctOf s (0, 1) = pw got (sent - got) := by
  have h1 : Is (Fl.passes 0 a (new_ [0, 0])) (-(two (0 + a) - 1)) 0 ([] ++ nums (pw 0 a)) [] none := Is.passes (s0 := 0) (m := new_ [0, 0]) Is.new a (by omega)
  rw [List.nil_append, Nat.zero_add] at h1
  have h2 := h1.first a b (by omega)
  unfold cutsEnd
  dsimp only
  cases sender with
  | true =>
    rw [if_pos rfl] at hg hs ⊢
    have h3 := h2.begin0
    obtain ⟨y, h4⟩ := h3.passes' (a + c) c
    have e : (100 : Nat) = (a - min a b) + (1 + (100 - (a - min a b) - 1)) := by omega
    rw [List.append_assoc] at h4
    rw [e, rep_add, rep_add]
    have h5 := Is.drain2 (fun s e => by cases e; rfl) (a - min a b) (g := min a b) (by omega) h4
    rw [show min a b + (a - min a b) = a by omega] at h5
    have h6 := Is.rec01 (m := rep d2 (a - min a b) _) (r := nums (pw (a + c) c)) h5 rfl
    have h7 := Is.mark10 (r := []) h6 rfl
    have h8 := Is.idle (m := rep d2 1 _) (by rfl) (100 - (a - min a b) - 1) h7
    refine ⟨_, h8, rfl, ?_, ?_, ?_⟩
    · subst hs; rfl
    · subst hg; rfl
    · subst hs hg; rw [Nat.sub_self]; rfl
  | false =>
    rw [if_neg (by decide)] at hg hs ⊢
    have h3 := h2.begin1
    obtain h4 := h3.passes (s0 := a) c (by omega)
    have h5 := Is.rec10 (m := Fl.passes a c _) (r := []) h4 rfl
    obtain ⟨y, h6⟩ := h5.passes' (a + c) c
    rw [← nums_app, show pw (min a b) (a - min a b) ++ pw a c = pw (min a b) (a + c - min a b) by
      have := pw_app (min a b) (a - min a b) c
      rw [show min a b + (a - min a b) = a by omega] at this
      rw [this]; congr 1; omega, List.append_assoc] at h6
    have e : (100 : Nat) = (a + c - min a b) + (1 + (100 - (a + c - min a b) - 1)) := by omega
    rw [e, rep_add, rep_add]
    obtain ⟨z, s', h7, a1, a2, a3⟩ := Is.catch (pw (min a b) (a + c - min a b)) (m := Fl.passes (a + c) c _) rfl h6
    rw [pw_len] at h7
    have hr : isRec s' 1 = true := by unfold isRec; rw [a1]; rfl
    have h8 := Is.mark01 (r := nums (pw (a + c) c)) h7 hr
    have e2 : rep d2 1 (rep d2 (a + c - min a b) (Fl.passes (a + c) c ((Fl.passes a c ((rep d01 b (Fl.passes 0 a (new_ [0, 0]))).begin_ 1)).dlv 1 0))) = (rep d2 (a + c - min a b) (Fl.passes (a + c) c ((Fl.passes a c ((rep d01 b (Fl.passes 0 a (new_ [0, 0]))).begin_ 1)).dlv 1 0))).dlv 0 1 := h8.nil10
    rw [e2]
    have h9 := Is.idle (by unfold Rs isOpen; dsimp only; rw [a2]; simp [opens2, kdel, kget]) (100 - (a + c - min a b) - 1) h8
    refine ⟨_, h9, ?_, ?_, ?_, ?_⟩
    · dsimp only; rw [a2]; rfl
    · dsimp only; rw [a1]; subst hs; rfl
    · dsimp only; rw [a1]; subst hg; rfl
    · subst hs hg
      show ctOf s' (0, 1) = _
      rw [a3]; rfl
end Fl
end
end Go.Arm
namespace Go.Arm
noncomputable section
open Go Go.X

/-! Sums over the first numbers. -/
def rsum : Nat → (Nat → Int) → Int
  | 0, _ => 0
  | n + 1, g => rsum n g + g n
theorem rsum_congr {g g' : Nat → Int} : ∀ {n : Nat}, (∀ i, i < n → g' i = g i) → rsum n g' = rsum n g
  | 0, _ => rfl
  | n + 1, h => by unfold rsum; rw [rsum_congr (fun i hi => h i (by omega)), h n (by omega)]
theorem rsum_one {g g' : Nat → Int} {a : Nat} : ∀ {n : Nat}, a < n → (∀ i, i < n → i ≠ a → g' i = g i) → rsum n g' = rsum n g + (g' a - g a)
  | 0, ha, _ => by omega
  | n + 1, ha, h => by
    unfold rsum
    by_cases e : a = n
    · subst e
      rw [rsum_congr (g := g) (g' := g') (fun i hi => h i (by omega) (by omega))]; omega
    · rw [rsum_one (a := a) (by omega) (fun i hi => h i (by omega)), h n (by omega) (fun e2 => e e2.symm)]; omega
theorem rsum_le {g g' : Nat → Int} {c : Int} : ∀ {n : Nat}, (∀ i, i < n → g' i ≤ g i + c) → rsum n g' ≤ rsum n g + n * c
  | 0, _ => by simp [rsum]
  | n + 1, h => by
    unfold rsum
    have h1 := rsum_le (g := g) (g' := g') (c := c) (n := n) (fun i hi => h i (by omega))
    have h2 := h n (by omega)
    have e : ((n + 1 : Nat) : Int) * c = n * c + c := by rw [Int.natCast_add, Int.add_mul]; simp
    rw [e]; omega
theorem rsum_zero {g : Nat → Int} : ∀ {n : Nat}, (∀ i, i < n → g i = 0) → rsum n g = 0
  | 0, _ => rfl
  | n + 1, h => by unfold rsum; rw [rsum_zero (fun i hi => h i (by omega)), h n (by omega)]; rfl
theorem rsum_nn {g : Nat → Int} : ∀ {n : Nat}, (∀ i, i < n → 0 ≤ g i) → 0 ≤ rsum n g
  | 0, _ => Int.le_refl _
  | n + 1, h => by unfold rsum; have := rsum_nn (g := g) (n := n) (fun i hi => h i (by omega)); have := h n (by omega); omega
def grid (n : Nat) (F : Nat → Nat → Int) : Int := rsum n fun i => rsum n (F i)
theorem grid_congr {F F' : Nat → Nat → Int} {n : Nat} (h : ∀ i k, i < n → k < n → F' i k = F i k) : grid n F' = grid n F :=
  rsum_congr fun i hi => rsum_congr fun k hk => h i k hi hk
theorem grid_one {F F' : Nat → Nat → Int} {n a b : Nat} (ha : a < n) (hb : b < n) (h : ∀ i k, i < n → k < n → ¬ (i = a ∧ k = b) → F' i k = F i k) : grid n F' = grid n F + (F' a b - F a b) := by
  unfold grid
  rw [rsum_one ha (g := fun i => rsum n (F i)) (fun i hi e => rsum_congr fun k hk => h i k hi hk (fun x => e x.1))]
  have := rsum_one hb (g := F a) (g' := F' a) (fun k hk e => h a k ha hk (fun x => e x.2))
  omega
theorem grid_row {F F' : Nat → Nat → Int} {n a : Nat} (ha : a < n) (h : ∀ i k, i < n → k < n → i ≠ a → F' i k = F i k) (hr : ∀ k, k < n → F' a k ≤ F a k + 1) : grid n F' ≤ grid n F + n := by
  unfold grid
  rw [rsum_one ha (g := fun i => rsum n (F i)) (fun i hi e => rsum_congr fun k hk => h i k hi hk e)]
  have := rsum_le (g := F a) (g' := F' a) (c := 1) (n := n) hr
  omega
theorem grid_zero {F : Nat → Nat → Int} {n : Nat} (h : ∀ i k, i < n → k < n → F i k = 0) : grid n F = 0 :=
  rsum_zero fun i hi => rsum_zero fun k hk => h i k hi hk
theorem grid_nn {F : Nat → Nat → Int} {n : Nat} (h : ∀ i k, i < n → k < n → 0 ≤ F i k) : 0 ≤ grid n F :=
  rsum_nn fun i hi => rsum_nn fun k hk => h i k hi hk

namespace Fl
/-- The same, up to wrapping. -/
def cg (x y : Int) : Prop := ∃ k : Int, x = y + 18446744073709551616 * k
theorem wr_cg (x : Int) : cg (wr x) x := ⟨(wr x - x) / 18446744073709551616, by unfold wr; rw [IntKind.wrap_i64]; omega⟩
theorem wr_of {x y : Int} (h : cg x y) : wr x = wr y := by
  obtain ⟨k, rfl⟩ := h
  unfold wr
  rw [IntKind.wrap_i64, IntKind.wrap_i64]; omega
theorem cg_refl (x : Int) : cg x x := ⟨0, by omega⟩
theorem cg_trans {x y z : Int} (h : cg x y) (k : cg y z) : cg x z := by
  obtain ⟨a, rfl⟩ := h; obtain ⟨b, rfl⟩ := k; exact ⟨a + b, by omega⟩
theorem cg_add {x y : Int} (h : cg x y) (c : Int) : cg (x + c) (y + c) := by
  obtain ⟨a, rfl⟩ := h; exact ⟨a, by omega⟩

def nsum : List Th → Int
  | [] => 0
  | .num v :: r => v + nsum r
  | .mark :: r => nsum r
def mkn : List Th → Int
  | [] => 0
  | .num _ :: r => mkn r
  | .mark :: r => 1 + mkn r
/-- What stands before the mark. -/
def nbm : List Th → Int
  | [] => 0
  | .num v :: r => v + nbm r
  | .mark :: _ => 0
theorem nsum_num (v : Int) : ∀ l, nsum (l ++ [.num v]) = nsum l + v
  | [] => by simp [nsum]
  | .num u :: r => by rw [List.cons_append, nsum, nsum, nsum_num v r]; omega
  | .mark :: r => by rw [List.cons_append, nsum, nsum, nsum_num v r]
theorem nsum_mark : ∀ l, nsum (l ++ [.mark]) = nsum l
  | [] => rfl
  | .num u :: r => by rw [List.cons_append, nsum, nsum, nsum_mark r]
  | .mark :: r => by rw [List.cons_append, nsum, nsum, nsum_mark r]
theorem mkn_nn : ∀ l, 0 ≤ mkn l
  | [] => Int.le_refl _
  | .num u :: r => mkn_nn r
  | .mark :: r => by have := mkn_nn r; unfold mkn; omega
theorem mkn_num (v : Int) : ∀ l, mkn (l ++ [.num v]) = mkn l
  | [] => rfl
  | .num u :: r => mkn_num v r
  | .mark :: r => by rw [List.cons_append, mkn, mkn, mkn_num v r]
theorem mkn_mark : ∀ l, mkn (l ++ [.mark]) = mkn l + 1
  | [] => rfl
  | .num u :: r => mkn_mark r
  | .mark :: r => by rw [List.cons_append, mkn, mkn, mkn_mark r]; omega
theorem nbm_mark : ∀ l, nbm (l ++ [.mark]) = nbm l
  | [] => rfl
  | .num u :: r => by rw [List.cons_append, nbm, nbm, nbm_mark r]
  | .mark :: r => rfl
theorem nbm_num (v : Int) : ∀ l, nbm (l ++ [.num v]) = if mkn l = 0 then nbm l + v else nbm l
  | [] => by simp [nbm, mkn]
  | .num u :: r => by rw [List.cons_append, nbm, nbm, mkn, nbm_num v r]; split <;> omega
  | .mark :: r => by have := mkn_nn r; rw [List.cons_append, nbm, nbm, mkn, if_neg (by omega)]
theorem nbm_all : ∀ l, mkn l = 0 → nbm l = nsum l
  | [], _ => rfl
  | .num u :: r, h => by rw [nbm, nsum, nbm_all r h]
  | .mark :: r, h => by have := mkn_nn r; rw [mkn] at h; omega
theorem mkn_mem : ∀ {l}, mkn l = 0 → Th.mark ∉ l
  | .num u :: r, h, hm => by
    rcases List.mem_cons.1 hm with e | hm
    · cases e
    · exact mkn_mem (l := r) h hm
  | .mark :: r, h, _ => by have := mkn_nn r; rw [mkn] at h; omega

def rv (m : Fl) (s : Sh) (i : Nat) : Int := (kget s.st (i : Int)).getD (m.at_ i)
def pc (m : Fl) (s : Sh) (i k : Nat) : Int := (ctOf s (i, k)).sum + if isOpen s (i, k) then nbm (m.q (i, k)) else 0
def nq (m : Fl) (i k : Nat) : Int := nsum (m.q (i, k))
/-- Before a snapshot is begun. -/
structure Pre (n : Nat) (tot : Int) (m : Fl) : Prop where
  sh : m.sh = none
  len : m.st.length = n
  dia : ∀ i : Int, m.q (i, i) = []
  a : cg (rsum n m.at_ + grid n (nq m)) tot
  nm : ∀ w, mkn (m.q w) = 0
/-- While one is taken. -/
structure Snap (n : Nat) (tot : Int) (m : Fl) (s : Sh) : Prop where
  sh : m.sh = some s
  len : m.st.length = n
  dia : ∀ i : Int, m.q (i, i) = []
  a : cg (rsum n m.at_ + grid n (nq m)) tot
  b : cg (rsum n (rv m s) + grid n (pc m s)) tot
  c0 : ∀ i k : Nat, i < n → k < n → i ≠ k → isRec s i = false → isOpen s (i, k) = true ∧ mkn (m.q (i, k)) = 0
  c1 : ∀ i k : Nat, i < n → k < n → i ≠ k → isRec s i = true → mkn (m.q (i, k)) = if isOpen s (i, k) then 1 else 0
  g : ∀ i k : Nat, i < n → k < n → i ≠ k → isRec s k = false → isOpen s (i, k) = true
  d : ∃ i : Nat, i < n ∧ isRec s i = true
  fo : ∀ e, e ∈ s.op → e.2 = true ∧ ∃ i k : Nat, i < n ∧ k < n ∧ i ≠ k ∧ e.1 = ((i : Int), (k : Int))
  one : kone s.op
  hc : ∀ i : Int, ctOf s (i, i) = []
variable {n p q' : Nat} {tot v : Int} {m m' : Fl} {s : Sh} {r : List Th}

theorem key_ne {i k p q : Nat} (h : ¬ (i = p ∧ k = q)) : ¬ (((p : Int), (q : Int)) = ((i : Int), (k : Int))) := by
  intro e
  have e := Prod.mk.inj e
  exact h ⟨by omega, by omega⟩
theorem key_dia {p q : Nat} (h : p ≠ q) (i : Int) : ¬ (((p : Int), (q : Int)) = (i, i)) := by
  intro e
  have e := Prod.mk.inj e
  exact h (by omega)
theorem at_set {l : List Int} {x : Int} (hp : p < l.length) (he : m'.st = l.set p x) : m'.at_ p = x := by
  unfold at_; rw [he, List.getElem?_set, if_pos rfl, if_pos hp]; rfl
theorem at_ne {l : List Int} {x : Int} {i : Nat} (he : m'.st = l.set p x) (hm : m.st = l) (hi : i ≠ p) : m'.at_ i = m.at_ i := by
  unfold at_; rw [he, hm, List.getElem?_set, if_neg (fun e => hi e.symm)]

theorem Snap.congr (h : Snap n tot m s) (h1 : ∀ w, m'.q w = m.q w) (h2 : m'.st = m.st) (h3 : m'.sh = m.sh) : Snap n tot m' s := by
  have ha : m'.at_ = m.at_ := by funext i; unfold at_; rw [h2]
  have hn : nq m' = nq m := by funext i k; unfold nq; rw [h1]
  have hr : rv m' s = rv m s := by funext i; unfold rv; rw [ha]
  have hp : pc m' s = pc m s := by funext i k; unfold pc; rw [h1]
  exact ⟨h3.trans h.sh, by rw [h2]; exact h.len, fun i => by rw [h1]; exact h.dia i, by rw [ha, hn]; exact h.a, by rw [hr, hp]; exact h.b,
    fun i k a b c d => by rw [h1]; exact h.c0 i k a b c d, fun i k a b c d => by rw [h1]; exact h.c1 i k a b c d, h.g, h.d, h.fo, h.one, h.hc⟩

/-- Sums when a number goes onto a channel. -/
theorem passA (hl : m.st.length = n) (hp : p < n) (hq : q' < n) (ha : cg (rsum n m.at_ + grid n (nq m)) tot) : cg (rsum n (m.pass p q' v).at_ + grid n (nq (m.pass p q' v))) tot := by
  rw [rsum_one (g := m.at_) hp (fun i _ hi => at_ne st_pass rfl hi), at_set (by omega) st_pass,
    grid_one (F := nq m) (a := p) (b := q') hp hq (fun i k _ _ hne => by unfold nq; rw [q_pass, if_neg (key_ne hne)])]
  unfold nq
  rw [q_pass, if_pos rfl, nsum_num]
  obtain ⟨k, e⟩ := wr_cg (m.at_ p - v)
  obtain ⟨k', e'⟩ := ha
  unfold nq at e'
  exact ⟨k + k', by rw [e]; omega⟩
theorem Pre.pass (h : Pre n tot m) (hp : p < n) (hq : q' < n) (hne : p ≠ q') : Pre n tot (m.pass p q' v) := by
  refine ⟨h.sh, by rw [st_pass, List.length_set]; exact h.len, fun i => ?_, passA h.len hp hq h.a, fun w => ?_⟩
  · rw [q_pass, if_neg (key_dia hne i)]; exact h.dia i
  · rw [q_pass]
    split
    · rw [mkn_num]; exact h.nm _
    · exact h.nm _
theorem Snap.pass (h : Snap n tot m s) (hp : p < n) (hq : q' < n) (hne : p ≠ q') : Snap n tot (m.pass p q' v) s := by
  have hmk : ∀ w, mkn ((m.pass p q' v).q w) = mkn (m.q w) := by
    intro w
    rw [q_pass]
    split
    · rename_i e; rw [mkn_num, e]
    · rfl
  refine ⟨h.sh, by rw [st_pass, List.length_set]; exact h.len, fun i => ?_, passA h.len hp hq h.a, ?_, fun i k a b c d => by rw [hmk]; exact h.c0 i k a b c d, fun i k a b c d => by rw [hmk]; exact h.c1 i k a b c d, h.g, h.d, h.fo, h.one, h.hc⟩
  · rw [q_pass, if_neg (key_dia hne i)]; exact h.dia i
  · rw [rsum_one (g := rv m s) hp (fun i _ hi => by unfold rv; rw [at_ne st_pass rfl hi]),
      grid_one (F := pc m s) (a := p) (b := q') hp hq (fun i k _ _ hne => by unfold pc; rw [q_pass, if_neg (key_ne hne)])]
    unfold rv pc
    rw [at_set (m' := m.pass p q' v) (by rw [h.len]; exact hp) st_pass, q_pass, if_pos rfl, nbm_num]
    have hb := h.b
    cases hr : isRec s p with
    | false =>
      obtain ⟨ho, hm⟩ := h.c0 p q' hp hq hne hr
      unfold isRec at hr
      have hk : kget s.st (p : Int) = none := by cases hk : kget s.st (p : Int) with | none => rfl | some _ => rw [hk] at hr; cases hr
      rw [hk, ho, hm, if_pos rfl, if_pos rfl, if_pos rfl]
      obtain ⟨k, e⟩ := wr_cg (m.at_ p - v)
      obtain ⟨k', e'⟩ := hb
      refine ⟨k + k', ?_⟩
      simp only [Option.getD_none]
      rw [e]
      unfold rv pc at e'
      omega
    | true =>
      have hm := h.c1 p q' hp hq hne hr
      unfold isRec at hr
      obtain ⟨y, hy⟩ := Option.isSome_iff_exists.1 hr
      rw [hy]
      simp only [Option.getD_some]
      cases ho : isOpen s (p, q') with
      | true =>
        rw [ho, if_pos rfl] at hm
        rw [if_pos rfl, if_pos rfl, if_neg (show ¬ mkn (m.q ((p : Int), (q' : Int))) = 0 by omega)]
        obtain ⟨k', e'⟩ := hb
        unfold rv pc at e'
        exact ⟨k', by omega⟩
      | false =>
        obtain ⟨k', e'⟩ := hb
        unfold rv pc at e'
        refine ⟨k', ?_⟩
        simp only [Bool.false_eq_true, if_false]
        omega
theorem dropA (hl : m.st.length = n) (hp : p < n) (hq : q' < n) (hm : m.q (p, q') = .num v :: r) (ha : cg (rsum n m.at_ + grid n (nq m)) tot) : cg (rsum n ((m.drop1 (p, q') r).arrN p q' v).at_ + grid n (nq ((m.drop1 (p, q') r).arrN p q' v))) tot := by
  rw [rsum_one (g := m.at_) hq (fun i _ hi => at_ne (m := m.drop1 (p, q') r) st_arrN rfl hi), at_set (m' := (m.drop1 (p, q') r).arrN p q' v) (l := m.st) (by omega) st_arrN,
    grid_one (F := nq m) (a := p) (b := q') hp hq (fun i k _ _ hne => by unfold nq; rw [q_arrN, q_drop1, if_neg (key_ne hne)])]
  unfold nq
  rw [q_arrN, q_drop1, if_pos rfl, hm, nsum]
  have e0 : (m.drop1 (p, q') r).at_ q' = m.at_ q' := rfl
  rw [e0]
  obtain ⟨k, e⟩ := wr_cg (m.at_ q' + v)
  obtain ⟨k', e'⟩ := ha
  unfold nq at e'
  exact ⟨k + k', by rw [e]; omega⟩
end Fl
end
end Go.Arm
namespace Go.Arm
noncomputable section
open Go Go.X
namespace Fl
variable {n p q' : Nat} {tot v : Int} {m m' : Fl} {s : Sh} {r : List Th}

theorem rec_none {i : Int} (h : isRec s i = false) : kget s.st i = none := by
  unfold isRec at h
  cases hk : kget s.st i with
  | none => rfl
  | some _ => rw [hk] at h; cases h
theorem Pre.num (h : Pre n tot m) (hp : p < n) (hq : q' < n) (hne : p ≠ q') (hm : m.q (p, q') = .num v :: r) : Pre n tot ((m.drop1 (p, q') r).arrN p q' v) := by
  have hmk : ∀ w, mkn (((m.drop1 (p, q') r).arrN p q' v).q w) = mkn (m.q w) := by
    intro w
    rw [q_arrN, q_drop1]
    split
    · rename_i e; rw [← e, hm]; rfl
    · rfl
  refine ⟨?_, ?_, fun i => ?_, dropA h.len hp hq hm h.a, fun w => by rw [hmk]; exact h.nm w⟩
  · rw [sh_arrN]; show m.sh.map _ = _; rw [h.sh]; rfl
  · rw [st_arrN, List.length_set]; exact h.len
  · rw [q_arrN, q_drop1, if_neg (key_dia hne i)]; exact h.dia i
theorem Snap.num (h : Snap n tot m s) (hp : p < n) (hq : q' < n) (hne : p ≠ q') (hm : m.q (p, q') = .num v :: r) :
    Snap n tot ((m.drop1 (p, q') r).arrN p q' v) (if isRec s q' && isOpen s (p, q') then { s with ct := kset s.ct (p, q') (ctOf s (p, q') ++ [v]) } else s) := by
  have hmk : ∀ w, mkn (((m.drop1 (p, q') r).arrN p q' v).q w) = mkn (m.q w) := by
    intro w
    rw [q_arrN, q_drop1]
    split
    · rename_i e; rw [← e, hm]; rfl
    · rfl
  have hsh : ((m.drop1 (p, q') r).arrN p q' v).sh = some (if isRec s q' && isOpen s (p, q') then { s with ct := kset s.ct (p, q') (ctOf s (p, q') ++ [v]) } else s) := by
    rw [sh_arrN]; show m.sh.map _ = _; rw [h.sh]; rfl
  have hlen : ((m.drop1 (p, q') r).arrN p q' v).st.length = n := by rw [st_arrN, List.length_set]; exact h.len
  have hdia : ∀ i : Int, ((m.drop1 (p, q') r).arrN p q' v).q (i, i) = [] := fun i => by rw [q_arrN, q_drop1, if_neg (key_dia hne i)]; exact h.dia i
  have hat : ((m.drop1 (p, q') r).arrN p q' v).at_ q' = wr (m.at_ q' + v) := at_set (l := m.st) (by rw [h.len]; exact hq) st_arrN
  have hq1 : ((m.drop1 (p, q') r).arrN p q' v).q (p, q') = r := by rw [q_arrN, q_drop1, if_pos rfl]
  have hqo : ∀ i k : Nat, ¬ (i = p ∧ k = q') → ((m.drop1 (p, q') r).arrN p q' v).q (i, k) = m.q (i, k) := fun i k e => by rw [q_arrN, q_drop1, if_neg (key_ne e)]
  have hao : ∀ i : Nat, i ≠ q' → ((m.drop1 (p, q') r).arrN p q' v).at_ i = m.at_ i := fun i e => at_ne (m := m) (l := m.st) st_arrN rfl e
  have ha := dropA h.len hp hq hm h.a
  generalize (m.drop1 (p, q') r).arrN p q' v = m2 at hmk hsh hlen hdia hat hq1 hqo hao ha ⊢
  have hb := h.b
  cases hr : isRec s q' with
  | false =>
    rw [hr, Bool.false_and, if_neg (by decide)] at hsh
    rw [Bool.false_and, if_neg (by decide)]
    refine ⟨hsh, hlen, hdia, ha, ?_, fun i k a b c d => by rw [hmk]; exact h.c0 i k a b c d, fun i k a b c d => by rw [hmk]; exact h.c1 i k a b c d, h.g, h.d, h.fo, h.one, h.hc⟩
    have ho := h.g p q' hp hq hne hr
    rw [rsum_one (g := rv m s) hq (fun i _ hi => by unfold rv; rw [hao i hi]),
      grid_one (F := pc m s) (a := p) (b := q') hp hq (fun i k _ _ hne => by unfold pc; rw [hqo i k hne])]
    unfold rv pc
    rw [rec_none hr, ho, hq1, hm, nbm, if_pos rfl, if_pos rfl, hat]
    obtain ⟨k, e⟩ := wr_cg (m.at_ q' + v)
    obtain ⟨k', e'⟩ := hb
    refine ⟨k + k', ?_⟩
    simp only [Option.getD_none]
    rw [e]
    unfold rv pc at e'
    omega
  | true =>
    obtain ⟨y, hy⟩ := Option.isSome_iff_exists.1 (show (kget s.st (q' : Int)).isSome = true from hr)
    have hrv : ∀ i, rv m2 s i = rv m s i := by
      intro i
      unfold rv
      by_cases e : i = q'
      · subst e; rw [hy]; rfl
      · rw [hao i e]
    cases ho : isOpen s (p, q') with
    | false =>
      rw [hr, ho, Bool.and_false, if_neg (by decide)] at hsh
      rw [Bool.and_false, if_neg (by decide)]
      refine ⟨hsh, hlen, hdia, ha, ?_, fun i k a b c d => by rw [hmk]; exact h.c0 i k a b c d, fun i k a b c d => by rw [hmk]; exact h.c1 i k a b c d, h.g, h.d, h.fo, h.one, h.hc⟩
      rw [rsum_congr (g := rv m s) (fun i _ => hrv i), grid_congr (F := pc m s) (fun i k _ _ => ?_)]
      · exact hb
      · unfold pc
        by_cases e : i = p ∧ k = q'
        · obtain ⟨e1, e2⟩ := e
          subst e1 e2
          rw [ho]; rfl
        · rw [hqo i k e]
    | true =>
      rw [hr, ho, Bool.and_true, if_pos rfl] at hsh
      rw [Bool.and_true, if_pos rfl]
      refine ⟨hsh, hlen, hdia, ha, ?_, fun i k a b c d => by rw [hmk]; exact h.c0 i k a b c d, fun i k a b c d => by rw [hmk]; exact h.c1 i k a b c d, h.g, h.d, h.fo, h.one, fun i => by rw [ctOf_set, if_neg (key_dia hne i)]; exact h.hc i⟩
      have e1 : rsum n (rv m2 { s with ct := kset s.ct (p, q') (ctOf s (p, q') ++ [v]) }) = rsum n (rv m s) := rsum_congr fun i _ => hrv i
      rw [e1, grid_one (F := pc m s) (a := p) (b := q') hp hq (fun i k _ _ hne => by unfold pc; rw [hqo i k hne, ctOf_set, if_neg (key_ne hne)]; rfl)]
      unfold pc
      rw [ctOf_set, if_pos rfl, hq1, hm, nbm, ho]
      have ho' : isOpen { s with ct := kset s.ct (p, q') (ctOf s (p, q') ++ [v]) } (p, q') = true := ho
      rw [ho', if_pos rfl, if_pos rfl, List.sum_append]
      obtain ⟨k', e'⟩ := hb
      refine ⟨k', ?_⟩
      unfold pc at e'
      simp only [List.sum_cons, List.sum_nil]
      omega
/-- A mark arrives where the state was recorded. -/
theorem Snap.mark (h : Snap n tot m s) (hp : p < n) (hq : q' < n) (hne : p ≠ q') (hm : m.q (p, q') = .mark :: r) (hr : isRec s q' = true) :
    Snap n tot ((m.drop1 (p, q') r).shut (p, q')) { s with op := kdel s.op (p, q') } := by
  have hpr : isRec s p = true := by
    cases e : isRec s p with
    | true => rfl
    | false =>
      have := (h.c0 p q' hp hq hne e).2
      rw [hm, mkn] at this
      have := mkn_nn r
      omega
  have hc := h.c1 p q' hp hq hne hpr
  rw [hm, mkn] at hc
  have hnn := mkn_nn r
  have hopen : isOpen s (p, q') = true := by
    cases e : isOpen s (p, q') with
    | true => rfl
    | false => rw [e, if_neg (by decide)] at hc; omega
  rw [hopen, if_pos rfl] at hc
  have hr0 : mkn r = 0 := by omega
  have hq1 : ((m.drop1 (p, q') r).shut (p, q')).q (p, q') = r := by rw [q_shut, q_drop1, if_pos rfl]
  have hqo : ∀ i k : Nat, ¬ (i = p ∧ k = q') → ((m.drop1 (p, q') r).shut (p, q')).q (i, k) = m.q (i, k) := fun i k e => by rw [q_shut, q_drop1, if_neg (key_ne e)]
  have hO : ∀ w, isOpen { s with op := kdel s.op (p, q') } w = if ((p : Int), (q' : Int)) = w then false else isOpen s w := by
    intro w
    unfold isOpen
    rw [kget_kdel _ _ h.one]
    split <;> rfl
  refine ⟨?_, h.len, fun i => ?_, ?_, ?_, fun i k a b c d => ?_, fun i k a b c d => ?_, fun i k a b c d => ?_, h.d, fun e he => ?_, kone_kdel _ h.one, h.hc⟩
  · rw [sh_shut]; show m.sh.map _ = _; rw [h.sh]; rfl
  · rw [q_shut, q_drop1, if_neg (key_dia hne i)]; exact h.dia i
  · have : grid n (nq ((m.drop1 (p, q') r).shut (p, q'))) = grid n (nq m) := grid_congr fun i k _ _ => by
      unfold nq
      by_cases e : i = p ∧ k = q'
      · obtain ⟨e1, e2⟩ := e
        subst e1 e2
        rw [hq1, hm]; rfl
      · rw [hqo i k e]
    rw [this]; exact h.a
  · have : grid n (pc ((m.drop1 (p, q') r).shut (p, q')) { s with op := kdel s.op (p, q') }) = grid n (pc m s) := grid_congr fun i k _ _ => by
      unfold pc
      rw [hO]
      by_cases e : i = p ∧ k = q'
      · obtain ⟨e1, e2⟩ := e
        subst e1 e2
        rw [if_pos rfl, hm, nbm, if_neg (by decide)]
        split <;> rfl
      · rw [if_neg (key_ne e), hqo i k e]; rfl
    rw [this]; exact h.b
  · have d : isRec s i = false := d
    have hip : ¬ (i = p ∧ k = q') := fun e => by rw [e.1, hpr] at d; cases d
    rw [hO, if_neg (key_ne hip), hqo i k hip]
    exact h.c0 i k a b c d
  · have d : isRec s i = true := d
    rw [hO]
    by_cases e : i = p ∧ k = q'
    · obtain ⟨e1, e2⟩ := e
      subst e1 e2
      rw [if_pos rfl, hq1, hr0]; rfl
    · rw [if_neg (key_ne e), hqo i k e]; exact h.c1 i k a b c d
  · have d : isRec s k = false := d
    have hip : ¬ (i = p ∧ k = q') := fun e => by rw [e.2, hr] at d; cases d
    rw [hO, if_neg (key_ne hip)]
    exact h.g i k a b c d
  · refine h.fo e ?_
    clear hO
    have he : e ∈ kdel s.op (p, q') := he
    have sub : ∀ (l : List ((Int × Int) × Bool)), e ∈ kdel l ((p : Int), (q' : Int)) → e ∈ l := by
      intro l
      induction l with
      | nil => exact fun h => h
      | cons x l ih =>
        intro h
        unfold kdel at h
        split at h
        · exact List.mem_cons_of_mem _ h
        · rcases List.mem_cons.1 h with h | h
          · rw [h]; exact List.mem_cons_self
          · exact List.mem_cons_of_mem _ (ih h)
    exact sub _ he
/-- A process records its state and tells the others. -/
theorem Snap.recd (h : Snap n tot m s) (hq : q' < n) (hr : isRec s q' = false) : Snap n tot (m.recd s q') { s with st := kset s.st q' (m.at_ q') } := by
  have hR : ∀ i : Nat, isRec { s with st := kset s.st (q' : Int) (m.at_ q') } i = if i = q' then true else isRec s i := by
    intro i
    unfold isRec
    rw [kget_kset]
    by_cases e : i = q'
    · subst e; rw [if_pos rfl, if_pos rfl]; rfl
    · rw [if_neg e, if_neg (by omega)]
  have hQ : ∀ i k : Nat, (m.recd s q').q (i, k) = if i = q' ∧ k ≠ q' ∧ k < n then m.q (i, k) ++ [.mark] else m.q (i, k) := by
    intro i k
    rw [q_recd, h.len]
    by_cases e : i = q' ∧ k ≠ q' ∧ k < n
    · rw [if_pos e, if_pos (by omega)]
    · rw [if_neg e, if_neg (by omega)]
  have hat : (m.recd s q').at_ = m.at_ := by funext i; unfold at_; rw [st_recd]
  refine ⟨sh_recd, by rw [st_recd]; exact h.len, fun i => ?_, ?_, ?_, fun i k a b c d => ?_, fun i k a b c d => ?_, fun i k a b c d => ?_, ⟨q', hq, by rw [hR, if_pos rfl]⟩, h.fo, h.one, h.hc⟩
  · rw [q_recd, if_neg (by omega)]; exact h.dia i
  · rw [hat]
    have : grid n (nq (m.recd s q')) = grid n (nq m) := grid_congr fun i k _ _ => by
      unfold nq
      rw [hQ]
      split
      · rw [nsum_mark]
      · rfl
    rw [this]; exact h.a
  · have e1 : rsum n (rv (m.recd s q') { s with st := kset s.st (q' : Int) (m.at_ q') }) = rsum n (rv m s) := rsum_congr fun i _ => by
      unfold rv
      rw [hat, kget_kset]
      by_cases e : i = q'
      · subst e; rw [if_pos rfl, rec_none hr]; rfl
      · rw [if_neg (by omega)]
    have e2 : grid n (pc (m.recd s q') { s with st := kset s.st (q' : Int) (m.at_ q') }) = grid n (pc m s) := grid_congr fun i k _ _ => by
      unfold pc
      have : nbm ((m.recd s q').q ((i : Int), (k : Int))) = nbm (m.q ((i : Int), (k : Int))) := by
        rw [hQ]
        split
        · rw [nbm_mark]
        · rfl
      rw [this]; rfl
    rw [e1, e2]; exact h.b
  · rw [hR] at d
    by_cases e : i = q'
    · rw [if_pos e] at d; cases d
    · rw [if_neg e] at d
      rw [hQ, if_neg (fun x => e x.1)]
      exact h.c0 i k a b c d
  · rw [hR] at d
    by_cases e : i = q'
    · subst e
      obtain ⟨h1, h2⟩ := h.c0 i k a b c hr
      have h1 : isOpen { s with st := kset s.st (i : Int) (m.at_ i) } (i, k) = true := h1
      rw [hQ, if_pos ⟨rfl, fun e => c e.symm, b⟩, mkn_mark, h2, h1]; rfl
    · rw [if_neg e] at d
      rw [hQ, if_neg (fun x => e x.1)]
      exact h.c1 i k a b c d
  · rw [hR] at d
    by_cases e : k = q'
    · rw [if_pos e] at d; cases d
    · rw [if_neg e] at d; exact h.g i k a b c d
end Fl
end
end Go.Arm
namespace Go.Arm
noncomputable section
open Go Go.X
namespace Fl
variable {n p q' : Nat} {tot v : Int} {m m' : Fl} {s : Sh} {r : List Th}

def lens (n : Nat) (m : Fl) : Int := grid n fun i k => ((m.q (i, k)).length : Int)
def phi (n : Nat) (m : Fl) (s : Sh) : Int := lens n m + n * rsum n fun i => if isRec s i then 0 else 1
theorem lens_nn (n : Nat) (m : Fl) : 0 ≤ lens n m := grid_nn fun _ _ _ _ => by omega
theorem phi_nn (n : Nat) (m : Fl) (s : Sh) : 0 ≤ phi n m s := by
  have h1 := lens_nn n m
  have h2 : (0 : Int) ≤ rsum n fun i => if isRec s i then 0 else 1 := rsum_nn fun i _ => by split <;> omega
  have h3 := Int.mul_nonneg (Int.natCast_nonneg n) h2
  unfold phi; omega
theorem lens_drop (hp : p < n) (hq : q' < n) {x : Th} (h0 : m.q (p, q') = x :: r) (h1 : m'.q (p, q') = r) (h2 : ∀ i k : Nat, ¬ (i = p ∧ k = q') → m'.q (i, k) = m.q (i, k)) : lens n m' = lens n m - 1 := by
  unfold lens
  rw [grid_one (F := fun i k => ((m.q (i, k)).length : Int)) hp hq (fun i k _ _ e => by rw [h2 i k e])]
  rw [h0, h1, List.length_cons]
  omega
theorem lens_pass (hp : p < n) (hq : q' < n) : lens n (m.pass p q' v) = lens n m + 1 := by
  unfold lens
  rw [grid_one (F := fun i k => ((m.q (i, k)).length : Int)) hp hq (fun i k _ _ e => by rw [q_pass, if_neg (key_ne e)])]
  rw [q_pass, if_pos rfl, List.length_append, List.length_singleton]
  omega
theorem lens_recd (hl : m.st.length = n) (hq : q' < n) : lens n (m.recd s q') ≤ lens n m + n := by
  unfold lens
  refine grid_row (a := q') hq (fun i k _ _ e => ?_) (fun k hk => ?_)
  · rw [q_recd, if_neg (by omega)]
  · rw [q_recd]
    split
    · rw [List.length_append, List.length_singleton]; omega
    · omega
theorem phi_pass (hp : p < n) (hq : q' < n) : phi n (m.pass p q' v) s = phi n m s + 1 := by
  unfold phi; rw [lens_pass hp hq]; omega
theorem Pre.dlv (h : Pre n tot m) (hp : p < n) (hq : q' < n) (hne : p ≠ q') : Pre n tot (m.dlv p q') ∧ lens n (m.dlv p q') ≤ lens n m := by
  cases hm : m.q (p, q') with
  | nil => rw [dlv_nil hm]; exact ⟨h, Int.le_refl _⟩
  | cons x r =>
    cases x with
    | num v =>
      rw [dlv_num hm]
      refine ⟨h.num hp hq hne hm, ?_⟩
      have := lens_drop (m' := (m.drop1 (p, q') r).arrN p q' v) hp hq hm (by rw [q_arrN, q_drop1, if_pos rfl]) (fun i k e => by rw [q_arrN, q_drop1, if_neg (key_ne e)])
      omega
    | mark =>
      have := h.nm (p, q')
      rw [hm, mkn] at this
      have := mkn_nn r
      omega
theorem Snap.dlv (h : Snap n tot m s) (hp : p < n) (hq : q' < n) (hne : p ≠ q') : ∃ s', Snap n tot (m.dlv p q') s' ∧ phi n (m.dlv p q') s' ≤ phi n m s ∧ (m.q (p, q') ≠ [] → phi n (m.dlv p q') s' + 1 ≤ phi n m s) := by
  cases hm : m.q (p, q') with
  | nil => rw [dlv_nil hm]; exact ⟨s, h, Int.le_refl _, fun e => absurd rfl e⟩
  | cons x r =>
    cases x with
    | num v =>
      rw [dlv_num hm]
      have hl := lens_drop (m' := (m.drop1 (p, q') r).arrN p q' v) hp hq hm (by rw [q_arrN, q_drop1, if_pos rfl]) (fun i k e => by rw [q_arrN, q_drop1, if_neg (key_ne e)])
      refine ⟨_, h.num hp hq hne hm, ?_⟩
      have hr : ∀ i : Int, isRec (if isRec s q' && isOpen s (p, q') then { s with ct := kset s.ct (p, q') (ctOf s (p, q') ++ [v]) } else s) i = isRec s i := by
        intro i; split <;> rfl
      unfold phi
      simp only [hr]
      exact ⟨by omega, fun _ => by omega⟩
    | mark =>
      rw [dlv_mark hm h.sh]
      unfold arrM
      cases hr : isRec s q' with
      | true =>
        rw [if_pos rfl]
        have hl := lens_drop (m' := (m.drop1 (p, q') r).shut (p, q')) hp hq hm (by rw [q_shut, q_drop1, if_pos rfl]) (fun i k e => by rw [q_shut, q_drop1, if_neg (key_ne e)])
        refine ⟨_, h.mark hp hq hne hm hr, ?_⟩
        have hr : ∀ i : Int, isRec { s with op := kdel s.op (p, q') } i = isRec s i := fun i => rfl
        unfold phi
        simp only [hr]
        exact ⟨by omega, fun _ => by omega⟩
      | false =>
        rw [if_neg (by decide)]
        have h1 := h.recd hq hr
        have hm1 : (m.recd s q').q (p, q') = .mark :: r := by rw [q_recd, if_neg (by omega)]; exact hm
        have h2 := h1.mark hp hq hne hm1 (by unfold isRec; rw [kget_kset, if_pos rfl]; rfl)
        have hqq : ∀ w, ((m.drop1 (p, q') r).recd s q' |>.shut (p, q')).q w = (((m.recd s q').drop1 (p, q') r).shut (p, q')).q w := by
          rintro ⟨a, b⟩
          rw [q_shut, q_shut, q_recd, q_drop1, q_drop1, q_recd]
          have hst : (m.drop1 (p, q') r).st.length = m.st.length := rfl
          rw [hst]
          by_cases e : ((p : Int), (q' : Int)) = (a, b)
          · have e' := Prod.mk.inj e
            rw [if_pos e, if_pos e, if_neg (by omega)]
          · rw [if_neg e, if_neg e]
        refine ⟨_, h2.congr hqq ?_ ?_, ?_⟩
        · rw [st_shut, st_recd, st_shut]; show m.st = (m.recd s q').st; rw [st_recd]
        · rw [sh_shut, sh_recd, sh_shut]; show _ = (m.recd s q').sh.map _; rw [sh_recd]; rfl
        · have hl : lens n ((m.drop1 (p, q') r).recd s q' |>.shut (p, q')) = lens n (((m.recd s q').drop1 (p, q') r).shut (p, q')) := by unfold lens; simp only [hqq]
          have hl2 := lens_drop (m := m.recd s q') (m' := ((m.recd s q').drop1 (p, q') r).shut (p, q')) hp hq hm1 (by rw [q_shut, q_drop1, if_pos rfl]) (fun i k e => by rw [q_shut, q_drop1, if_neg (key_ne e)])
          have hl3 := lens_recd (m := m) (s := s) h.len hq
          have hR : rsum n (fun i => if isRec { s with st := kset s.st (q' : Int) (m.at_ q'), op := kdel s.op (p, q') } i then (0 : Int) else 1) = rsum n (fun i => if isRec s i then 0 else 1) - 1 := by
            have h3 : ∀ i : Nat, isRec { s with st := kset s.st (q' : Int) (m.at_ q'), op := kdel s.op (p, q') } i = if i = q' then true else isRec s i := by
              intro i
              unfold isRec
              rw [kget_kset]
              by_cases e : i = q'
              · subst e; rw [if_pos rfl, if_pos rfl]; rfl
              · rw [if_neg e, if_neg (by omega)]
            simp only [h3]
            rw [rsum_one (g := fun i => if isRec s i then (0 : Int) else 1) (a := q') hq (fun i _ e => by rw [if_neg e])]
            rw [if_pos rfl, if_pos rfl, hr, if_neg (by decide)]
            omega
          unfold phi
          rw [hR, hl, hl2, Int.mul_sub, Int.mul_one]
          exact ⟨by omega, fun _ => by omega⟩

/-! Rounds. -/
def rowd (p : Nat) : Nat → Fl → Fl
  | 0, m => m
  | k + 1, m => if p = k then rowd p k m else (rowd p k m).dlv p k
def rnd (n : Nat) : Nat → Fl → Fl
  | 0, m => m
  | p + 1, m => rowd p n (rnd n p m)
def rnds (n : Nat) : Nat → Fl → Fl
  | 0, m => m
  | k + 1, m => rnd n n (rnds n k m)
theorem Snap.rowd (h : Snap n tot m s) (hp : p < n) : ∀ (k : Nat), k ≤ n → ∃ s', Snap n tot (rowd p k m) s' ∧ phi n (Fl.rowd p k m) s' ≤ phi n m s ∧
    (phi n (Fl.rowd p k m) s' + 1 ≤ phi n m s ∨ (Fl.rowd p k m = m ∧ ∀ j : Nat, j < k → j ≠ p → m.q (p, j) = []))
  | 0, _ => ⟨s, h, Int.le_refl _, .inr ⟨rfl, fun j hj => by omega⟩⟩
  | k + 1, hk => by
    obtain ⟨s1, h1, h2, h3⟩ := h.rowd hp k (by omega)
    unfold Fl.rowd
    split
    · rename_i e
      refine ⟨s1, h1, h2, h3.imp id fun h3 => ⟨h3.1, fun j hj hne => h3.2 j (by omega) hne⟩⟩
    · rename_i e
      obtain ⟨s2, g1, g2, g3⟩ := h1.dlv hp (show k < n by omega) e
      refine ⟨s2, g1, by omega, ?_⟩
      rcases h3 with h3 | ⟨h3, h4⟩
      · exact .inl (by omega)
      · by_cases hq : m.q (p, k) = []
        · refine .inr ⟨by rw [h3, dlv_nil hq], fun j hj hne => ?_⟩
          by_cases ej : j = k
          · rw [ej]; exact hq
          · exact h4 j (by omega) hne
        · rw [h3] at g3
          exact .inl (by rw [h3]; have := g3 hq; rw [h3] at h2; omega)
theorem Snap.rnd (h : Snap n tot m s) : ∀ (k : Nat), k ≤ n → ∃ s', Snap n tot (rnd n k m) s' ∧ phi n (Fl.rnd n k m) s' ≤ phi n m s ∧
    (phi n (Fl.rnd n k m) s' + 1 ≤ phi n m s ∨ (Fl.rnd n k m = m ∧ ∀ i j : Nat, i < k → j < n → j ≠ i → m.q (i, j) = []))
  | 0, _ => ⟨s, h, Int.le_refl _, .inr ⟨rfl, fun i j hi => by omega⟩⟩
  | k + 1, hk => by
    obtain ⟨s1, h1, h2, h3⟩ := h.rnd k (by omega)
    unfold Fl.rnd
    obtain ⟨s2, g1, g2, g3⟩ := h1.rowd (show k < n by omega) n (Nat.le_refl _)
    refine ⟨s2, g1, by omega, ?_⟩
    rcases h3 with h3 | ⟨h3, h4⟩
    · exact .inl (by omega)
    · rcases g3 with g3 | ⟨g3, g4⟩
      · exact .inl (by omega)
      · refine .inr ⟨by rw [g3, h3], fun i j hi hj hne => ?_⟩
        by_cases ei : i = k
        · subst ei
          have := g4 j hj hne
          rw [h3] at this; exact this
        · exact h4 i j (by omega) hj hne
def Quiet (n : Nat) (m : Fl) : Prop := ∀ i j : Nat, i < n → j < n → j ≠ i → m.q (i, j) = []
theorem Snap.rnds (h : Snap n tot m s) : ∀ (k : Nat), ∃ s', Snap n tot (rnds n k m) s' ∧ (phi n (Fl.rnds n k m) s' + k ≤ phi n m s ∨ Quiet n (Fl.rnds n k m))
  | 0 => ⟨s, h, .inl (by unfold Fl.rnds; omega)⟩
  | k + 1 => by
    obtain ⟨s1, h1, h2⟩ := h.rnds k
    unfold Fl.rnds
    obtain ⟨s2, g1, g2, g3⟩ := h1.rnd n (Nat.le_refl _)
    refine ⟨s2, g1, ?_⟩
    rcases g3 with g3 | ⟨g3, g4⟩
    · rcases h2 with h2 | h2
      · exact .inl (by omega)
      · -- a quiet round changes nothing
        exfalso
        have quietRow : ∀ (p : Nat), p < n → ∀ k', k' ≤ n → Fl.rowd p k' (Fl.rnds n k m) = Fl.rnds n k m := by
          intro p hp k'
          induction k' with
          | zero => intro _; rfl
          | succ k' ih =>
            intro hk
            unfold Fl.rowd
            rw [ih (by omega)]
            split
            · rfl
            · rename_i e; exact dlv_nil (h2 p k' hp (by omega) (fun x => e x.symm))
        have quiet : ∀ k', k' ≤ n → Fl.rnd n k' (Fl.rnds n k m) = Fl.rnds n k m := by
          intro k'
          induction k' with
          | zero => intro _; rfl
          | succ k' ih =>
            intro hk
            unfold Fl.rnd
            rw [ih (by omega)]
            exact quietRow k' (by omega) n (Nat.le_refl _)
        have e := quiet n (Nat.le_refl _)
        rw [e] at g1 g3
        have : s2 = s1 := by have := g1.sh.symm.trans h1.sh; cases this; rfl
        subst this
        omega
    · refine .inr fun i j hi hj hne => ?_
      rw [g3]
      exact g4 i j hi hj hne
/-- What a snapshot holds once nothing is on channels. -/
theorem Snap.done (h : Snap n tot m s) (hq : Quiet n m) : s.op = [] ∧ cg (rsum n m.at_) tot ∧ cg (rsum n (fun i => (kget s.st (i : Int)).getD 0) + grid n (fun i k => (ctOf s (i, k)).sum)) tot := by
  obtain ⟨i0, hi0, hr0⟩ := h.d
  have hall : ∀ k, k < n → isRec s k = true := by
    intro k hk
    by_cases e : i0 = k
    · rw [← e]; exact hr0
    · cases hr : isRec s k with
      | true => rfl
      | false =>
        have h1 := h.g i0 k hi0 hk e hr
        have h2 := h.c1 i0 k hi0 hk e hr0
        rw [hq i0 k hi0 hk (fun x => e x.symm), h1] at h2
        simp [mkn] at h2
  have hop : ∀ i k : Nat, i < n → k < n → i ≠ k → isOpen s (i, k) = false := by
    intro i k hi hk hne
    have h2 := h.c1 i k hi hk hne (hall i hi)
    rw [hq i k hi hk (fun x => hne x.symm)] at h2
    cases e : isOpen s (i, k) with
    | false => rfl
    | true => rw [e] at h2; simp [mkn] at h2
  have hz : s.op = [] := by
    cases ho : s.op with
    | nil => rfl
    | cons e l =>
      exfalso
      obtain ⟨h1, i, k, hi, hk, hne, he⟩ := h.fo e (by rw [ho]; exact List.mem_cons_self)
      have := hop i k hi hk hne
      unfold isOpen at this
      rw [ho, kget, if_pos he, Option.getD_some, h1] at this
      cases this
  have hqe : ∀ i k : Nat, i < n → k < n → m.q (i, k) = [] := by
    intro i k hi hk
    by_cases e : k = i
    · rw [e]; exact h.dia i
    · exact hq i k hi hk e
  refine ⟨hz, ?_, ?_⟩
  · have := h.a
    rw [grid_zero (F := nq m) (fun i k hi hk => by unfold nq; rw [hqe i k hi hk]; rfl), Int.add_zero] at this
    exact this
  · have := h.b
    rw [rsum_congr (g := fun i => (kget s.st (i : Int)).getD 0) (fun i hi => by
      unfold rv
      obtain ⟨y, hy⟩ := Option.isSome_iff_exists.1 (show (kget s.st (i : Int)).isSome = true from hall i hi)
      rw [hy]; rfl), grid_congr (F := fun i k => (ctOf s (i, k)).sum) (fun i k hi hk => by
      unfold pc
      rw [hqe i k hi hk, nbm]
      split <;> omega)] at this
    exact this

/-! A snapshot is begun. -/
def OkO (n : Nat) (l : List ((Int × Int) × Bool)) : Prop := kone l ∧ ∀ e, e ∈ l → e.2 = true ∧ ∃ i k : Nat, i < n ∧ k < n ∧ i ≠ k ∧ e.1 = ((i : Int), (k : Int))
theorem mem_kset' {κ β : Type} [DecidableEq κ] {k : κ} {y : β} {x : κ × β} : ∀ {m : List (κ × β)}, x ∈ kset m k y → x = (k, y) ∨ x ∈ m
  | [], h => by simpa [kset] using h
  | e :: r, h => by
    unfold kset at h
    split at h
    · rcases List.mem_cons.1 h with h | h
      · exact .inl h
      · exact .inr (List.mem_cons_of_mem _ h)
    · rcases List.mem_cons.1 h with h | h
      · exact .inr (by rw [h]; exact List.mem_cons_self)
      · exact (mem_kset' h).imp id (List.mem_cons_of_mem _)
theorem OkO.set {l : List ((Int × Int) × Bool)} (h : OkO n l) {i k : Nat} (hi : i < n) (hk : k < n) (hne : i ≠ k) : OkO n (kset l ((i : Int), (k : Int)) true) :=
  ⟨kone_kset _ _ h.1, fun e he => (mem_kset' he).elim (fun e => by subst e; exact ⟨rfl, i, k, hi, hk, hne, rfl⟩) (h.2 e)⟩
def oRow (i : Nat) (j : Nat) (l : List ((Int × Int) × Bool)) : List ((Int × Int) × Bool) := (List.range j).foldl (fun l (k : Nat) => if i = k then l else kset l ((i : Int), (k : Int)) true) l
def oAll (n : Nat) (j : Nat) : List ((Int × Int) × Bool) := (List.range j).foldl (fun l (i : Nat) => oRow i n l) []
theorem oRow_succ (i j : Nat) (l : List ((Int × Int) × Bool)) : oRow i (j + 1) l = if i = j then oRow i j l else kset (oRow i j l) ((i : Int), (j : Int)) true := by
  unfold oRow; rw [List.range_succ, List.foldl_append]; rfl
theorem oAll_succ (n j : Nat) : oAll n (j + 1) = oRow j n (oAll n j) := by
  unfold oAll; rw [List.range_succ, List.foldl_append]; rfl
theorem opens_all (n : Nat) : opens n = oAll n n := rfl
theorem oRow_ok {l : List ((Int × Int) × Bool)} (h : OkO n l) {i : Nat} (hi : i < n) : ∀ (j : Nat), j ≤ n → OkO n (oRow i j l) ∧ (∀ w, kget l w = some true → kget (oRow i j l) w = some true) ∧ ∀ k : Nat, k < j → i ≠ k → kget (oRow i j l) ((i : Int), (k : Int)) = some true
  | 0, _ => ⟨h, fun w hw => hw, fun k hk => by omega⟩
  | j + 1, hj => by
    obtain ⟨h1, h2, h3⟩ := oRow_ok h hi j (by omega)
    rw [oRow_succ]
    split
    · rename_i e
      exact ⟨h1, h2, fun k hk hne => h3 k (by omega) hne⟩
    · rename_i e
      refine ⟨h1.set hi (by omega) e, fun w hw => ?_, fun k hk hne => ?_⟩
      · rw [kget_kset]; split
        · rfl
        · exact h2 w hw
      · rw [kget_kset]; split
        · rfl
        · rename_i e2
          refine h3 k ?_ hne
          by_cases ek : k = j
          · exact absurd (by rw [ek]) e2
          · omega
theorem oAll_ok (n : Nat) : ∀ (j : Nat), j ≤ n → OkO n (oAll n j) ∧ ∀ i k : Nat, i < j → k < n → i ≠ k → kget (oAll n j) ((i : Int), (k : Int)) = some true
  | 0, _ => ⟨⟨by simp [kone, oAll], fun e he => by cases he⟩, fun i k hi => by omega⟩
  | j + 1, hj => by
    obtain ⟨h1, h2⟩ := oAll_ok n j (by omega)
    rw [oAll_succ]
    obtain ⟨g1, g2, g3⟩ := oRow_ok h1 (show j < n by omega) n (Nat.le_refl _)
    refine ⟨g1, fun i k hi hk hne => ?_⟩
    by_cases e : i = j
    · subst e; exact g3 k hk hne
    · exact g2 _ (h2 i k (by omega) hk hne)
theorem Pre.begin_ (h : Pre n tot m) (hp : p < n) : ∃ s, Snap n tot (m.begin_ p) s ∧ phi n (m.begin_ p) s ≤ lens n m + n + n * n := by
  obtain ⟨⟨ho1, ho2⟩, ho3⟩ := oAll_ok n n (Nat.le_refl _)
  have hR : ∀ i : Nat, isRec ⟨[((p : Int), m.at_ p)], [], opens n⟩ i = decide (i = p) := by
    intro i
    unfold isRec
    simp only [kget]
    by_cases e : i = p
    · subst e; simp
    · rw [if_neg (by omega)]; simp [e]
  have hO : ∀ i k : Nat, i < n → k < n → i ≠ k → isOpen ⟨[((p : Int), m.at_ p)], [], opens n⟩ (i, k) = true := by
    intro i k hi hk hne
    unfold isOpen
    rw [opens_all, ho3 i k hi hk hne]; rfl
  have hQ : ∀ i k : Nat, (m.begin_ p).q (i, k) = if i = p ∧ k ≠ p ∧ k < n then m.q (i, k) ++ [.mark] else m.q (i, k) := by
    intro i k
    rw [q_begin, h.len]
    by_cases e : i = p ∧ k ≠ p ∧ k < n
    · rw [if_pos e, if_pos (by omega)]
    · rw [if_neg e, if_neg (by omega)]
  have hat : (m.begin_ p).at_ = m.at_ := by funext i; unfold at_; rw [st_begin]
  have hsum : grid n (nq (m.begin_ p)) = grid n (nq m) := grid_congr fun i k _ _ => by
    unfold nq
    rw [hQ]
    split
    · rw [nsum_mark]
    · rfl
  refine ⟨⟨[((p : Int), m.at_ p)], [], opens n⟩, ⟨by rw [sh_begin, h.len], by rw [st_begin]; exact h.len, fun i => ?_, by rw [hat, hsum]; exact h.a, ?_, fun i k a b c d => ?_, fun i k a b c d => ?_, fun i k a b c d => hO i k a b c, ⟨p, hp, by rw [hR]; simp⟩, ho2, ho1, fun i => rfl⟩, ?_⟩
  · rw [q_begin, if_neg (by omega)]; exact h.dia i
  · have e1 : rsum n (rv (m.begin_ p) ⟨[((p : Int), m.at_ p)], [], opens n⟩) = rsum n m.at_ := rsum_congr fun i _ => by
      unfold rv
      rw [hat]
      simp only [kget]
      by_cases e : i = p
      · subst e; rw [if_pos rfl]; rfl
      · rw [if_neg (by omega)]; rfl
    have e2 : grid n (pc (m.begin_ p) ⟨[((p : Int), m.at_ p)], [], opens n⟩) = grid n (nq m) := grid_congr fun i k hi hk => by
      unfold pc
      have hc : ctOf ⟨[((p : Int), m.at_ p)], [], opens n⟩ ((i : Int), (k : Int)) = [] := rfl
      rw [hc]
      by_cases e : i = k
      · subst e
        rw [hQ, if_neg (show ¬ (i = p ∧ i ≠ p ∧ i < n) by omega)]
        unfold nq
        rw [h.dia]
        simp [nbm, nsum]
      · rw [hO i k hi hk e, if_pos rfl, hQ]
        have := nbm_all _ (h.nm (i, k))
        unfold nq
        split
        · rw [nbm_mark, this]; simp
        · rw [this]; simp
    rw [e1, e2]; exact h.a
  · rw [hR] at d
    have : i ≠ p := by simpa using d
    rw [hQ, if_neg (fun x => this x.1)]
    exact ⟨hO i k a b c, h.nm _⟩
  · rw [hR] at d
    have : i = p := by simpa using d
    rw [hO i k a b c, hQ, if_pos ⟨this, fun e => c (by rw [this, e]), b⟩, mkn_mark, h.nm]; rfl
  · have h1 : lens n (m.begin_ p) ≤ lens n m + n := by
      unfold lens
      refine grid_row (a := p) hp (fun i k _ _ e => ?_) (fun k hk => ?_)
      · rw [hQ, if_neg (fun x => e x.1)]
      · rw [hQ]
        split
        · rw [List.length_append, List.length_singleton]; omega
        · omega
    have h2 := rsum_le (n := n) (g := fun _ => 0) (g' := fun i : Nat => if isRec ⟨[((p : Int), m.at_ p)], [], opens n⟩ (i : Int) then (0 : Int) else 1) (c := 1) (fun i _ => by split <;> omega)
    rw [rsum_zero (fun _ _ => rfl)] at h2
    have h3 := Int.mul_le_mul_of_nonneg_left h2 (Int.natCast_nonneg n)
    unfold phi
    simp only [Int.mul_one, Int.zero_add] at h3
    omega
theorem Pre.new {l : List Int} (hn : l.length = n) : Pre n l.sum (new_ l) := by
  have hs : ∀ k : Nat, k ≤ l.length → rsum k (fun i => (l[i]?).getD 0) = (l.take k).sum := by
    intro k
    induction k with
    | zero => intro _; simp [rsum]
    | succ k ih =>
      intro hk
      rw [rsum, ih (by omega), List.take_succ_eq_append_getElem (by omega), List.sum_append, List.getElem?_eq_getElem (by omega)]
      simp
  refine ⟨rfl, hn, fun i => rfl, ?_, fun w => rfl⟩
  rw [grid_zero (F := nq (new_ l)) (fun i k _ _ => rfl)]
  subst hn
  have := hs l.length (Nat.le_refl _)
  rw [List.take_length] at this
  exact ⟨0, by unfold at_ new_; rw [this]; omega⟩
end Fl
end
end Go.Arm
namespace Go.Arm
noncomputable section
open Go Go.X
namespace Fl
variable {n p q' i j : Nat} {tot v : Int} {m m' : Fl} {s : Sh} {b : Bool}
/-- After i steps; b: whether a snapshot was begun. -/
def Ph (n : Nat) (tot : Int) (i : Nat) (b : Bool) (m : Fl) : Prop := match b with
  | true => ∃ s, Snap n tot m s ∧ phi n m s ≤ i + n + n * n
  | false => Pre n tot m ∧ lens n m ≤ i
theorem Ph.new {l : List Int} (hn : l.length = n) : Ph n l.sum 0 false (new_ l) :=
  ⟨Pre.new hn, by
    have : lens n (new_ l) = 0 := grid_zero (fun i k _ _ => rfl)
    rw [this]; exact Int.le_refl _⟩
theorem Ph.up (h : Ph n tot i b m) (hj : i ≤ j) : Ph n tot j b m := by
  cases b with
  | true => obtain ⟨s, h1, h2⟩ := h; exact ⟨s, h1, by omega⟩
  | false => exact ⟨h.1, by have := h.2; omega⟩
theorem Ph.begin_ (h : Ph n tot i false m) (hp : p < n) : Ph n tot i true (m.begin_ p) := by
  obtain ⟨h1, h2⟩ := h
  obtain ⟨s, h3, h4⟩ := h1.begin_ hp
  exact ⟨s, h3, by omega⟩
theorem Ph.pass (h : Ph n tot i b m) (hp : p < n) (hq : q' < n) (hne : p ≠ q') : Ph n tot (i + 1) b (m.pass p q' v) := by
  cases b with
  | true =>
    obtain ⟨s, h1, h2⟩ := h
    exact ⟨s, h1.pass hp hq hne, by rw [phi_pass hp hq]; omega⟩
  | false => exact ⟨h.1.pass hp hq hne, by rw [lens_pass hp hq]; have := h.2; omega⟩
theorem Ph.dlv (h : Ph n tot i b m) (hp : p < n) (hq : q' < n) (hne : p ≠ q') : Ph n tot i b (m.dlv p q') := by
  cases b with
  | true =>
    obtain ⟨s, h1, h2⟩ := h
    obtain ⟨s', h3, h4, _⟩ := h1.dlv hp hq hne
    exact ⟨s', h3, by omega⟩
  | false =>
    obtain ⟨h1, h2⟩ := h.1.dlv hp hq hne
    have := h.2
    exact ⟨h1, by omega⟩
theorem Ph.none (h : Ph n tot i false m) : m.sh = none := h.1.sh
theorem Ph.len (h : Ph n tot i b m) : m.st.length = n := by
  cases b with
  | true => obtain ⟨s, h1, _⟩ := h; exact h1.len
  | false => exact h.1.len
theorem Ph.ends (h : Ph n tot i true m) (hi : i ≤ 60) (hn : n ≤ 5) : ∃ s, (rnds n 200 m).sh = some s ∧ s.op = [] ∧ wr (rsum n (rnds n 200 m).at_) = wr tot ∧
    wr (rsum n (fun i => (kget s.st (i : Int)).getD 0) + grid n (fun i k => (ctOf s (i, k)).sum)) = wr tot ∧ ∀ i : Int, ctOf s (i, i) = [] := by
  obtain ⟨s, h1, h2⟩ := h
  obtain ⟨s', h3, h4⟩ := h1.rnds 200
  have hq : Quiet n (rnds n 200 m) := by
    rcases h4 with h4 | h4
    · exfalso
      have := phi_nn n (rnds n 200 m) s'
      have hnn : (n : Int) * n ≤ 5 * 5 := Int.mul_le_mul (by omega) (by omega) (by omega) (by omega)
      omega
    · exact h4
  obtain ⟨a, b, c⟩ := h3.done hq
  exact ⟨s', h3.sh, a, wr_of b, wr_of c, h3.hc⟩
theorem wr_add (a x : Int) : wr (wr a + x) = wr (a + x) := wr_of (cg_add (wr_cg a) x)
end Fl
end
end Go.Arm
namespace Go.Arm
noncomputable section
open Go Go.X
/-- One value of a function is another one. -/
def ups {ρ α : Type} [DecidableEq ρ] (f : ρ → α) (r : ρ) (x : α) : ρ → α := fun r' => if r' = r then x else f r'
theorem ups_at {ρ α : Type} [DecidableEq ρ] (f : ρ → α) (r : ρ) (x : α) : ups f r x r = x := by unfold ups; rw [if_pos rfl]
theorem ups_ne {ρ α : Type} [DecidableEq ρ] (f : ρ → α) {r r' : ρ} (x : α) (h : r' ≠ r) : ups f r x r' = f r' := by unfold ups; rw [if_neg h]
theorem ups_id {ρ α : Type} [DecidableEq ρ] (f : ρ → α) (r : ρ) : ups f r (f r) = f := by
  funext r'
  unfold ups
  split
  · rename_i e; rw [e]
  · rfl
/-- A slice whose elements may be set. -/
def Ws (h : AH) (k : Nat) (v : Value) (n : Nat) (cs : List Value) : Prop :=
  cs.length = n * k ∧ ((n = 0 ∧ ∃ a c, v = .slice a 0 c ∧ (a = none → c = 0) ∧ ∀ q, a = some q → q.block < h.next) ∨
    ∃ b o c cc nn op, 0 < n ∧ c ≠ 0 ∧ v = .slice (some ⟨b, o, none⟩) n c ∧ b < h.next ∧ h.m.get b = some (.cells cc nn op false) ∧ o + n * k ≤ nn ∧ ∀ j, j < cs.length → cc.get (o + j) = cs[j]?)
section
variable {P : Program} {h h' : AH} {S : Nat → Prop} {k n b : Nat} {v : Value} {cs : List Value} {T el : TypeId}
theorem Ws.sd (H : Ws h k v n cs) : Sd h k v n cs := by
  refine ⟨H.1, ?_⟩
  rcases H.2 with hl | ⟨b, o, c, cc, nn, op, h0, h1, e, h2, h3, h4, h5⟩
  · exact .inl hl
  · exact .inr ⟨b, o, c, cc, nn, op, false, h0, h1, e, h2, h3, h4, h5⟩
theorem Ws.sm (H : Ws h k v n cs) (s : Sm S h h') (hb : ∀ b, vb v = some b → ¬ S b) : Ws h' k v n cs := by
  obtain ⟨hl, hs⟩ := H
  refine ⟨hl, ?_⟩
  rcases hs with ⟨h0, a, c, e, h1, h2⟩ | ⟨b, o, c, cc, nn, op, h0, h1, rfl, h2, h3, h4, h5⟩
  · exact .inl ⟨h0, a, c, e, h1, fun q hq => Nat.lt_of_lt_of_le (h2 q hq) s.nx⟩
  · exact .inr ⟨b, o, c, cc, nn, op, h0, h1, rfl, Nat.lt_of_lt_of_le h2 s.nx, (s.get b h2 (hb b rfl)).trans h3, h4, h5⟩
theorem Ws.ext (H : Ws h k v n cs) (s : Sm Nix h h') : Ws h' k v n cs := H.sm s (fun _ _ x => x)
theorem Ws.nil : Ws h k (.slice none 0 0) 0 [] := ⟨by simp, .inl ⟨rfl, none, 0, rfl, fun _ => rfl, (fun q hq => by cases hq)⟩⟩
theorem Gr.ws (hg : Gr h k v n cs) : Ws h k v n cs := by
  obtain ⟨hl, hg⟩ := hg
  refine ⟨hl, ?_⟩
  rcases hg with ⟨h0, rfl | ⟨a, rfl, ha⟩⟩ | ⟨b, o, cc, nn, rfl, h2, h3, h4, h5, h6⟩
  · exact .inl ⟨h0, none, 0, rfl, fun _ => rfl, (fun q hq => by cases hq)⟩
  · exact .inl ⟨h0, some a, 0, rfl, (fun h => by cases h), (fun q hq => by cases hq; exact ha)⟩
  · by_cases hn : n = 0
    · subst hn
      exact .inl ⟨rfl, _, _, rfl, (fun h => by cases h), (fun q hq => by cases hq; exact h2)⟩
    · exact .inr ⟨b, o, _, cc, nn, k, by omega, open_ne, rfl, h2, h3, h5, h6⟩
theorem Cl.ws (hc : Cl h b cs) (hn : cs.length = n) : Ws h 1 (.slice (some ⟨b, 0, none⟩) n n) n cs := by
  refine ⟨by omega, ?_⟩
  obtain ⟨h1, c, op, h2, h3⟩ := hc
  by_cases h0 : n = 0
  · exact .inl ⟨h0, some ⟨b, 0, none⟩, n, by rw [h0], (fun e => by cases e), (fun q hq => by cases hq; exact h1)⟩
  · exact .inr ⟨b, 0, n, c, cs.length, op, by omega, h0, rfl, h1, h2, by omega, fun j hj => by rw [Nat.zero_add]; exact h3 j hj⟩
/-- An element is read, and set. -/
theorem Ws.elem {i : Nat} (hT : P.underlying T = some (.slice el)) (hk : szOf P el = some 1) (hs : scalT P el = true) (hg : Ws h 1 v n cs) (hi : i < n) (kd : IntKind) :
    ∃ p x, aIndex P T v (.int kd i) = some (.pointer (some p)) ∧ cs[i]? = some x ∧ aLoad P el p h = some x ∧ vb v = some p.block ∧
      ∀ u, cellsL u = [u] → u.oneCell' = true → ∃ h', aStore P el p u h = some h' ∧ Ws h' 1 v n (cs.set i u) ∧ Sm (fun b => vb v = some b) h h' ∧ h'.next = h.next := by
  obtain ⟨hl, hg⟩ := hg
  rcases hg with ⟨h0, _⟩ | ⟨b, o, c, cc, nn, op, h0, h1, rfl, h2, h3, h5, h6⟩
  · omega
  · have hil : i < cs.length := by omega
    refine ⟨⟨b, o + i, none⟩, cs[i], ?_, List.getElem?_eq_getElem hil, ?_, rfl, fun u hu hu1 => ?_⟩
    · unfold aIndex
      simp only [hT, hk]
      rw [if_pos ⟨h1, by omega, by omega⟩]
      simp
    · unfold scalT at hs
      cases hu : P.underlying el with
      | none => rw [hu] at hs; cases hs
      | some d =>
        rw [hu] at hs
        have hs : isAg d = false := by simpa using hs
        unfold aLoad
        simp only [hu, hs]
        show h.cell _ = _
        unfold AH.cell
        simp only [h3]
        rw [if_pos (by omega), h6 i (by omega), List.getElem?_eq_getElem hil]
    · refine ⟨⟨h.m.set b (some (.cells (cc.set (o + i) (some u)) nn op false)), h.next⟩, ?_, ⟨by rw [List.length_set]; exact hl, .inr ⟨b, o, c, cc.set (o + i) (some u), nn, op, h0, h1, rfl, h2, ?_, h5, fun j hj => ?_⟩⟩, ⟨Nat.le_refl _, fun x hx hn => ?_⟩, rfl⟩
      · unfold aStore
        simp only [hk, hu, List.length_singleton, if_true]
        unfold AH.setcs
        rw [if_pos hu1]
        dsimp only
        rw [Nat.add_zero]
        unfold AH.setc
        simp only [h3]
        rw [if_pos (by omega)]
        rfl
      · show (h.m.set b _).get b = _
        rw [X.T.get_set, if_pos rfl]
      · rw [List.length_set] at hj
        rw [X.T.get_set, List.getElem?_set]
        by_cases e : j = i
        · subst e; rw [if_pos rfl, if_pos rfl, if_pos hil]
        · rw [if_neg (by omega), if_neg (fun e2 => e e2.symm)]; exact h6 j hj
      · show (h.m.set b _).get x = _
        rw [X.T.get_set, if_neg (fun e => hn (by rw [e]; rfl))]
theorem Ws.lenV (hg : Ws h k v n cs) (hT : P.underlying T = some (.slice el)) : aLen P T v h = some (.int .i64 n) := hg.sd.len hT
end
/-- A slice that may be appended to, or one whose elements may be set. -/
def Gw (g : Bool) (h : AH) (k : Nat) (v : Value) (n : Nat) (cs : List Value) : Prop := match g with
  | true => Gr h k v n cs
  | false => Ws h k v n cs
section
variable {h h' : AH} {S : Nat → Prop} {g : Bool} {k n : Nat} {v : Value} {cs : List Value}
theorem Gw.ws (H : Gw g h k v n cs) : Ws h k v n cs := by
  cases g with
  | true => exact Gr.ws H
  | false => exact H
theorem Gw.sm (H : Gw g h k v n cs) (s : Sm S h h') (hb : ∀ b, vb v = some b → ¬ S b) : Gw g h' k v n cs := by
  cases g with
  | true => exact Gr.sm H s hb
  | false => exact Ws.sm H s hb
theorem Gw.nil : Gw g h k (.slice none 0 0) 0 [] := by
  cases g with
  | true => exact Gr.nil
  | false => exact Ws.nil
end
section
variable {ρ : Type} [DecidableEq ρ] {h h' : AH} {S : Nat → Prop} {g : ρ → Bool} {k : ρ → Nat} {V : ρ → Value} {n : ρ → Nat} {cs : ρ → List Value}
/-- Slices, no two in one block. -/
structure Lay (h : AH) (g : ρ → Bool) (k : ρ → Nat) (V : ρ → Value) (n : ρ → Nat) (cs : ρ → List Value) : Prop where
  gr : ∀ r, Gw (g r) h (k r) (V r) (n r) (cs r)
  inj : ∀ r r' b, vb (V r) = some b → vb (V r') = some b → r = r'
omit [DecidableEq ρ] in
theorem Lay.sm (L : Lay h g k V n cs) (s : Sm S h h') (hS : ∀ r b, vb (V r) = some b → ¬ S b) : Lay h' g k V n cs := ⟨fun r => (L.gr r).sm s (hS r), L.inj⟩
omit [DecidableEq ρ] in
theorem Lay.ext (L : Lay h g k V n cs) (s : Sm Nix h h') : Lay h' g k V n cs := L.sm s (fun _ _ _ x => x)
omit [DecidableEq ρ] in
theorem Lay.lt (L : Lay h g k V n cs) {r : ρ} {b : Nat} (hb : vb (V r) = some b) : b < h.next := (L.gr r).ws.sd.lt hb
/-- One of them is another one. -/
theorem Lay.put (L : Lay h g k V n cs) (r : ρ) {v : Value} {m : Nat} {c : List Value} (s : Sm S h h') (hS : ∀ r', r' ≠ r → ∀ b, vb (V r') = some b → ¬ S b) (G : Gw (g r) h' (k r) v m c) (hv : ∀ r', r' ≠ r → ∀ b, vb (V r') = some b → vb v ≠ some b) :
    Lay h' g k (ups V r v) (ups n r m) (ups cs r c) := by
  refine ⟨fun r' => ?_, fun a a' b ha ha' => ?_⟩
  · by_cases hr : r' = r
    · subst hr; rw [ups_at, ups_at, ups_at]; exact G
    · rw [ups_ne _ _ hr, ups_ne _ _ hr, ups_ne _ _ hr]; exact (L.gr r').sm s (hS r' hr)
  · by_cases h1 : a = r
    · by_cases h2 : a' = r
      · rw [h1, h2]
      · subst h1; rw [ups_at] at ha; rw [ups_ne _ _ h2] at ha'; exact (hv _ h2 b ha' ha).elim
    · by_cases h2 : a' = r
      · subst h2; rw [ups_at] at ha'; rw [ups_ne _ _ h1] at ha; exact (hv _ h1 b ha ha').elim
      · rw [ups_ne _ _ h1] at ha; rw [ups_ne _ _ h2] at ha'; exact L.inj _ _ _ ha ha'
omit [DecidableEq ρ] in
/-- Steps that change the block of one of them, or new blocks. -/
theorem Lay.own (L : Lay h g k V n cs) (r : ρ) (hS : ∀ b, S b → vb (V r) = some b ∨ h.next ≤ b) : ∀ r', r' ≠ r → ∀ b, vb (V r') = some b → ¬ S b := fun r' hr b hb hx => by
  rcases hS b hx with e | e
  · exact hr (L.inj _ _ _ hb e)
  · have := L.lt hb; omega
omit [DecidableEq ρ] in
theorem Lay.fresh (L : Lay h g k V n cs) (r : ρ) {v : Value} (hv : ∀ b, vb v = some b → vb (V r) = some b ∨ h.next ≤ b) : ∀ r', r' ≠ r → ∀ b, vb (V r') = some b → vb v ≠ some b := fun r' hr b hb hx => by
  rcases hv b hx with e | e
  · exact hr (L.inj _ _ _ hb e)
  · have := L.lt hb; omega
omit [DecidableEq ρ] in
theorem Lay.eq (L : Lay h g k V n cs) {V' : ρ → Value} {n' : ρ → Nat} {cs' : ρ → List Value} (h1 : V' = V) (h2 : n' = n) (h3 : cs' = cs) : Lay h g k V' n' cs' := by subst h1 h2 h3; exact L
end
section
variable {P : Program} {h h' : AH} {b o i n k : Nat} {cs : List Value} {v : Value} {T el : TypeId}
/-- Where an element of more cells is. -/
theorem Gr.at (hT : P.underlying T = some (.slice el)) (hk : szOf P el = some k) (hg : Gr h k v n cs) (hi : i < n) (kd : IntKind) :
    ∃ b o, vb v = some b ∧ aIndex P T v (.int kd i) = some (.pointer (some ⟨b, o, none⟩)) ∧ ∀ j, j < k → h.cell ⟨b, o + j, none⟩ = cs[i * k + j]? := hg.sd.at hT hk hi kd
theorem ld_cell (hs : scalT P el = true) (hc : h.cell ⟨b, o, none⟩ = some v) : aLoad P el ⟨b, o, none⟩ h = some v := by
  unfold scalT at hs
  cases hu : P.underlying el with
  | none => rw [hu] at hs; cases hs
  | some d =>
    rw [hu] at hs
    have hs : isAg d = false := by simpa using hs
    unfold aLoad
    simp only [hu, hs]
    exact hc
theorem ld_two {x y : Value} (hs : aggT P el 2 = true) (h0 : h.cell ⟨b, o, none⟩ = some x) (h1 : h.cell ⟨b, o + 1, none⟩ = some y) : aLoad P el ⟨b, o, none⟩ h = some (.agg ⟨[x, y]⟩) := by
  unfold aggT at hs
  cases hu : P.underlying el with
  | none => rw [hu] at hs; cases hs
  | some d =>
    rw [hu] at hs
    simp only [Bool.and_eq_true] at hs
    cases hz : szOf P el with
    | none => rw [hz] at hs; cases hs.2
    | some j =>
      rw [hz] at hs
      have : j = 2 := Nat.eq_of_beq_eq_true hs.2
      subst this
      unfold aLoad
      simp only [hu, hs.1, if_true, hz]
      have e : h.cells ⟨b, o, none⟩ 0 2 = some [x, y] := by
        unfold AH.cells
        dsimp only
        rw [Nat.add_zero, h0]
        unfold AH.cells
        dsimp only
        rw [show o + (0 + 1) = o + 1 by omega, h1]
        rfl
      rw [e]
/-- All but the first, of elements of more cells. -/
theorem Gr.tailK (hT : P.underlying T = some (.slice el)) (hk : szOf P el = some k) (hg : Gr h k v (n + 1) cs) :
    ∃ v', aSl P T v (some (.int .i64 1)) none none h = some v' ∧ Gr h k v' n (cs.drop k) ∧ vb v' = vb v := by
  obtain ⟨hl, hg⟩ := hg
  rcases hg with ⟨h0, _⟩ | ⟨b, o, cc, nn, rfl, h2, h3, h4, h5, h6⟩
  · omega
  · have hkl : (n + 1) * k = n * k + k := Nat.succ_mul n k
    refine ⟨.slice (some ⟨b, o + k, none⟩) n open_, ?_, ⟨by rw [List.length_drop, hl, hkl]; omega, .inr ⟨b, o + k, cc, nn, rfl, h2, h3, h4, by omega, fun j hj => ?_⟩⟩, rfl⟩
    · have : aSlice P T (.slice (some ⟨b, o, none⟩) (n + 1) open_) (some (.int .i64 1)) none none h = some (.slice (some ⟨b, o + k, none⟩) n open_) := by
        unfold aSlice
        rw [if_pos (show mxOk none none = true from rfl)]
        simp only [hT, hk, if_true]
        have e1 : bnd none (n + 1) = some (n + 1) := rfl
        have e2 : bnd (some (.int .i64 1)) 0 = some 1 := rfl
        have e3 : opOf h b = some (nn, k) := by unfold opOf; rw [h3]
        simp only [e1, e2, e3]
        rw [if_pos ⟨by omega, trivial, .inl (Nat.le_refl _)⟩]
        simp
      unfold aSl
      rw [this]
    · rw [List.length_drop] at hj
      rw [show o + k + j = o + (k + j) by omega, h6 (k + j) (by omega), List.getElem?_drop]
end

/-! The reference's flows. -/
def thw : Th → List Value
  | .num v => [.bool false, .int .i64 v]
  | .mark => [.bool true, .int .i64 0]
def bw (x : Bool) : Value := .bool x
def nv (x : Int) : Value := .int .i64 x
structure Rm where
  st : List Int
  bg : Bool
  rc : List Bool
  sh : List Int
  sw : Nat
  cw : Nat → Nat
  w : Nat → Nat → List Th
  so : Nat
  co : Nat → Nat
  o : Nat → Nat → Bool
  sc : Nat
  cc : Nat → Nat
  c : Nat → Nat → List Int
inductive RL
  | st | rc | sh
  | wt | wr (i : Nat) | wc (i j : Nat)
  | ot | or (i : Nat)
  | ct | cr (i : Nat) | cc (i j : Nat)
  deriving DecidableEq
namespace Rm
def gg : RL → Bool
  | .wt | .wc _ _ | .ot | .ct | .cc _ _ => true
  | _ => false
def kk : RL → Nat
  | .wc _ _ => 2
  | _ => 1
def nn (m : Rm) : RL → Nat
  | .st => m.st.length
  | .rc => m.rc.length
  | .sh => m.sh.length
  | .wt => m.sw
  | .wr i => m.cw i
  | .wc i j => (m.w i j).length
  | .ot => m.so
  | .or i => m.co i
  | .ct => m.sc
  | .cr i => m.cc i
  | .cc i j => (m.c i j).length
def cont (V : RL → Value) (m : Rm) : RL → List Value
  | .st => m.st.map nv
  | .rc => m.rc.map bw
  | .sh => m.sh.map nv
  | .wt => (List.range m.sw).map fun i => V (.wr i)
  | .wr i => (List.range (m.cw i)).map fun j => V (.wc i j)
  | .wc i j => (m.w i j).flatMap thw
  | .ot => (List.range m.so).map fun i => V (.or i)
  | .or i => (List.range (m.co i)).map fun j => bw (m.o i j)
  | .ct => (List.range m.sc).map fun i => V (.cr i)
  | .cr i => (List.range (m.cc i)).map fun j => V (.cc i j)
  | .cc i j => (m.c i j).map nv
def up2 {α : Type} (f : Nat → Nat → α) (i j : Nat) (x : α) : Nat → Nat → α := fun a b => if a = i ∧ b = j then x else f a b
theorem up2_at {α : Type} (f : Nat → Nat → α) (i j : Nat) (x : α) : up2 f i j x i j = x := by unfold up2; rw [if_pos ⟨rfl, rfl⟩]
theorem up2_ne {α : Type} (f : Nat → Nat → α) {i j a b : Nat} (x : α) (h : ¬ (a = i ∧ b = j)) : up2 f i j x a b = f a b := by unfold up2; rw [if_neg h]
end Rm
/-- How a reference's flow lies in memory. -/
structure RR (h : AH) (f : Nat) (V : RL → Value) (m : Rm) : Prop where
  cl : Cl h f [V .st, V .wt, .bool m.bg, V .rc, V .sh, V .ot, V .ct]
  lay : Lay h Rm.gg Rm.kk V m.nn (Rm.cont V m)
  me : ∀ r, vb (V r) ≠ some f
/-- Its blocks. -/
def RF (f : Nat) (V : RL → Value) (b : Nat) : Prop := b = f ∨ ∃ r, vb (V r) = some b
section
variable {h h' : AH} {S : Nat → Prop} {f : Nat} {V : RL → Value} {m : Rm}
theorem RR.sm (H : RR h f V m) (s : Sm S h h') (hS : ∀ b, RF f V b → ¬ S b) : RR h' f V m :=
  ⟨H.cl.sm s (hS _ (.inl rfl)), H.lay.sm s (fun r b hb => hS b (.inr ⟨r, hb⟩)), H.me⟩
theorem RR.ext (H : RR h f V m) (s : Sm Nix h h') : RR h' f V m := H.sm s (fun _ _ x => x)
theorem RR.lt (H : RR h f V m) {b : Nat} (hb : RF f V b) : b < h.next := by
  rcases hb with rfl | ⟨r, hr⟩
  · exact H.cl.lt
  · exact H.lay.lt hr
theorem map_set_range {α : Type} (g : Nat → α) (n j : Nat) (x : α) : ((List.range n).map g).set j x = (List.range n).map fun k => if k = j then x else g k := by
  apply List.ext_getElem?
  intro i
  rw [List.getElem?_set]
  by_cases hi : i < n
  · by_cases e : j = i
    · subst e; simp [hi]
    · have e3 : ¬ i = j := fun e2 => e e2.symm
      rw [if_neg e]; simp [hi, e3]
  · simp [hi]
    intro e; omega
theorem oneS {v : Value} {n k : Nat} {cs : List Value} (g : Sd h k v n cs) : cellsL v = [v] ∧ v.oneCell' = true := by
  obtain ⟨a, c, rfl⟩ := g.form
  exact ⟨rfl, rfl⟩
/-- States are set. -/
theorem RR.setSt (H : RR h f V m) {l : List Int} (g : Ws h' 1 (V .st) l.length (l.map nv)) (t : Sm (fun b => vb (V .st) = some b) h h') : RR h' f V { m with st := l } := by
  have L := H.lay.put .st t (H.lay.own _ fun b hb => .inl hb) g (H.lay.fresh _ fun b hb => .inl hb)
  refine ⟨H.cl.sm t (H.me .st), L.eq (ups_id V _).symm ?_ ?_, H.me⟩ <;> funext r <;> cases r <;> simp [ups, Rm.nn, Rm.cont]
theorem RR.setRc (H : RR h f V m) {l : List Bool} (g : Ws h' 1 (V .rc) l.length (l.map bw)) (t : Sm (fun b => vb (V .rc) = some b) h h') : RR h' f V { m with rc := l } := by
  have L := H.lay.put .rc t (H.lay.own _ fun b hb => .inl hb) g (H.lay.fresh _ fun b hb => .inl hb)
  refine ⟨H.cl.sm t (H.me .rc), L.eq (ups_id V _).symm ?_ ?_, H.me⟩ <;> funext r <;> cases r <;> simp [ups, Rm.nn, Rm.cont]
theorem RR.setSh (H : RR h f V m) {l : List Int} (g : Ws h' 1 (V .sh) l.length (l.map nv)) (t : Sm (fun b => vb (V .sh) = some b) h h') : RR h' f V { m with sh := l } := by
  have L := H.lay.put .sh t (H.lay.own _ fun b hb => .inl hb) g (H.lay.fresh _ fun b hb => .inl hb)
  refine ⟨H.cl.sm t (H.me .sh), L.eq (ups_id V _).symm ?_ ?_, H.me⟩ <;> funext r <;> cases r <;> simp [ups, Rm.nn, Rm.cont]
/-- A row's bit is set. -/
theorem RR.setO (H : RR h f V m) {i j : Nat} {x : Bool} (g : Ws h' 1 (V (.or i)) (m.co i) ((Rm.cont V m (.or i)).set j (bw x))) (t : Sm (fun b => vb (V (.or i)) = some b) h h') : RR h' f V { m with o := Rm.up2 m.o i j x } := by
  have L := H.lay.put (.or i) t (H.lay.own _ fun b hb => .inl hb) g (H.lay.fresh _ fun b hb => .inl hb)
  refine ⟨H.cl.sm t (H.me _), L.eq (ups_id V _).symm ?_ ?_, H.me⟩
  · funext r; cases r <;> simp [ups, Rm.nn]
    intro e; subst e; rfl
  · funext r
    cases r with
    | or a =>
      by_cases e : a = i
      · subst e
        rw [ups_at]
        show (List.range (m.co a)).map _ = ((List.range (m.co a)).map _).set j (bw x)
        rw [map_set_range]
        refine List.map_congr_left fun b _ => ?_
        show bw (Rm.up2 m.o a j x a b) = _
        by_cases e2 : b = j
        · subst e2; rw [Rm.up2_at, if_pos rfl]
        · rw [Rm.up2_ne _ _ (fun h => e2 h.2), if_neg e2]
      · rw [ups_ne _ _ (fun h => e (by cases h; rfl))]
        show (List.range (m.co a)).map _ = (List.range (m.co a)).map _
        refine List.map_congr_left fun b _ => ?_
        show bw (Rm.up2 m.o i j x a b) = _
        rw [Rm.up2_ne _ _ (fun h => e h.1)]
    | _ => simp [ups, Rm.cont]
theorem RR.len (H : RR h f V m) (r : RL) : (Rm.cont V m r).length = m.nn r * Rm.kk r := (H.lay.gr r).ws.1
/-- A list is another one. -/
theorem RR.putW {P : Program} {T el : TypeId} (H : RR h f V m) {i j : Nat} (hj : j < m.cw i) {l : List Th} {v : Value} {h1 : AH} (hT : P.underlying T = some (.slice el)) (hk : szOf P el = some 1) (hs : scalT P el = true)
    (s : Sm (fun b => vb (V (.wc i j)) = some b) h h1) (g : Gr h1 2 v l.length (l.flatMap thw)) (hv : ∀ b, vb v = some b → vb (V (.wc i j)) = some b ∨ h.next ≤ b) :
    ∃ p h2, aIndex P T (V (.wr i)) (.int .i64 j) = some (.pointer (some p)) ∧ aStore P el p v h1 = some h2 ∧ RR h2 f (ups V (.wc i j) v) { m with w := Rm.up2 m.w i j l } ∧
      Sm (fun b => vb (V (.wc i j)) = some b ∨ vb (V (.wr i)) = some b) h h2 ∧ h2.next = h1.next := by
  have L1 := H.lay.put (.wc i j) s (H.lay.own _ fun b hb => .inl hb) (show Gw true h1 2 v l.length (l.flatMap thw) from g) (H.lay.fresh _ hv)
  have g1 : Ws h1 1 (V (.wr i)) (m.cw i) (Rm.cont V m (.wr i)) := by
    have := L1.gr (.wr i)
    rw [ups_ne _ _ (by simp), ups_ne _ _ (by simp), ups_ne _ _ (by simp)] at this
    exact this
  obtain ⟨p, x, e1, _, _, e4, e5⟩ := g1.elem hT hk hs hj .i64
  obtain ⟨h2, a1, a2, a3, a4⟩ := e5 v (oneS g.sd).1 (oneS g.sd).2
  have L2 := L1.put (.wr i) a3 (L1.own _ fun b hb => .inl (by rw [ups_ne _ _ (by simp)]; exact hb)) a2 (L1.fresh _ fun b hb => .inl (by rw [ups_ne _ _ (by simp)]; exact hb))
  refine ⟨p, h2, e1, a1, ⟨?_, L2.eq ?_ ?_ ?_, ?_⟩, (s.mono fun b hb => .inl hb).trans a3 (fun b hb => .inl (.inr hb)), a4⟩
  · have hc := (H.cl.sm s (H.me _)).sm a3 (H.me _)
    rw [ups_ne _ _ (by simp), ups_ne _ _ (by simp), ups_ne _ _ (by simp), ups_ne _ _ (by simp), ups_ne _ _ (by simp), ups_ne _ _ (by simp)]
    exact hc
  · funext r
    by_cases hr : r = .wr i
    · subst hr; rw [ups_at, ups_ne _ _ (by simp)]
    · rw [ups_ne _ _ hr]
  · funext r
    by_cases hr : r = .wr i
    · subst hr; rw [ups_at]; rfl
    · rw [ups_ne _ _ hr]
      by_cases h3 : r = .wc i j
      · subst h3; rw [ups_at]
        show (Rm.up2 m.w i j l i j).length = _
        rw [Rm.up2_at]
      · rw [ups_ne _ _ h3]
        cases r with
        | wc a b =>
          show (Rm.up2 m.w i j l a b).length = (m.w a b).length
          rw [Rm.up2_ne _ _ (fun h => h3 (by rw [h.1, h.2]))]
        | _ => rfl
  · funext r
    by_cases hr : r = .wr i
    · subst hr
      rw [ups_at]
      show (List.range (m.cw i)).map _ = ((List.range (m.cw i)).map _).set j v
      rw [map_set_range]
      refine List.map_congr_left fun b _ => ?_
      by_cases e2 : b = j
      · subst e2; rw [ups_at, if_pos rfl]
      · rw [ups_ne _ _ (by simp [e2]), if_neg e2]
    · rw [ups_ne _ _ hr]
      by_cases h3 : r = .wc i j
      · subst h3; rw [ups_at]
        show (Rm.up2 m.w i j l i j).flatMap thw = _
        rw [Rm.up2_at]
      · rw [ups_ne _ _ h3]
        cases r with
        | wc a b =>
          show (Rm.up2 m.w i j l a b).flatMap thw = (m.w a b).flatMap thw
          rw [Rm.up2_ne _ _ (fun h => h3 (by rw [h.1, h.2]))]
        | wr a =>
          show (List.range (m.cw a)).map _ = (List.range (m.cw a)).map _
          refine List.map_congr_left fun b _ => ?_
          exact ups_ne _ _ (by intro e; cases e; exact hr rfl)
        | _ => simp [Rm.cont, ups]
  · intro r
    by_cases h3 : r = .wc i j
    · subst h3; rw [ups_at]
      intro e
      rcases hv _ e with e | e
      · exact H.me _ e
      · have := H.cl.lt; omega
    · rw [ups_ne _ _ h3]; exact H.me _
/-- A list is another one. -/
theorem RR.putC {P : Program} {T el : TypeId} (H : RR h f V m) {i j : Nat} (hj : j < m.cc i) {l : List Int} {v : Value} {h1 : AH} (hT : P.underlying T = some (.slice el)) (hk : szOf P el = some 1) (hs : scalT P el = true)
    (s : Sm (fun b => vb (V (.cc i j)) = some b) h h1) (g : Gr h1 1 v l.length (l.map nv)) (hv : ∀ b, vb v = some b → vb (V (.cc i j)) = some b ∨ h.next ≤ b) :
    ∃ p h2, aIndex P T (V (.cr i)) (.int .i64 j) = some (.pointer (some p)) ∧ aStore P el p v h1 = some h2 ∧ RR h2 f (ups V (.cc i j) v) { m with c := Rm.up2 m.c i j l } ∧
      Sm (fun b => vb (V (.cc i j)) = some b ∨ vb (V (.cr i)) = some b) h h2 ∧ h2.next = h1.next := by
  have L1 := H.lay.put (.cc i j) s (H.lay.own _ fun b hb => .inl hb) (show Gw true h1 1 v l.length (l.map nv) from g) (H.lay.fresh _ hv)
  have g1 : Ws h1 1 (V (.cr i)) (m.cc i) (Rm.cont V m (.cr i)) := by
    have := L1.gr (.cr i)
    rw [ups_ne _ _ (by simp), ups_ne _ _ (by simp), ups_ne _ _ (by simp)] at this
    exact this
  obtain ⟨p, x, e1, _, _, e4, e5⟩ := g1.elem hT hk hs hj .i64
  obtain ⟨h2, a1, a2, a3, a4⟩ := e5 v (oneS g.sd).1 (oneS g.sd).2
  have L2 := L1.put (.cr i) a3 (L1.own _ fun b hb => .inl (by rw [ups_ne _ _ (by simp)]; exact hb)) a2 (L1.fresh _ fun b hb => .inl (by rw [ups_ne _ _ (by simp)]; exact hb))
  refine ⟨p, h2, e1, a1, ⟨?_, L2.eq ?_ ?_ ?_, ?_⟩, (s.mono fun b hb => .inl hb).trans a3 (fun b hb => .inl (.inr hb)), a4⟩
  · have hc := (H.cl.sm s (H.me _)).sm a3 (H.me _)
    rw [ups_ne _ _ (by simp), ups_ne _ _ (by simp), ups_ne _ _ (by simp), ups_ne _ _ (by simp), ups_ne _ _ (by simp), ups_ne _ _ (by simp)]
    exact hc
  · funext r
    by_cases hr : r = .cr i
    · subst hr; rw [ups_at, ups_ne _ _ (by simp)]
    · rw [ups_ne _ _ hr]
  · funext r
    by_cases hr : r = .cr i
    · subst hr; rw [ups_at]; rfl
    · rw [ups_ne _ _ hr]
      by_cases h3 : r = .cc i j
      · subst h3; rw [ups_at]
        show (Rm.up2 m.c i j l i j).length = _
        rw [Rm.up2_at]
      · rw [ups_ne _ _ h3]
        cases r with
        | cc a b =>
          show (Rm.up2 m.c i j l a b).length = (m.c a b).length
          rw [Rm.up2_ne _ _ (fun h => h3 (by rw [h.1, h.2]))]
        | _ => rfl
  · funext r
    by_cases hr : r = .cr i
    · subst hr
      rw [ups_at]
      show (List.range (m.cc i)).map _ = ((List.range (m.cc i)).map _).set j v
      rw [map_set_range]
      refine List.map_congr_left fun b _ => ?_
      by_cases e2 : b = j
      · subst e2; rw [ups_at, if_pos rfl]
      · rw [ups_ne _ _ (by simp [e2]), if_neg e2]
    · rw [ups_ne _ _ hr]
      by_cases h3 : r = .cc i j
      · subst h3; rw [ups_at]
        show (Rm.up2 m.c i j l i j).map nv = _
        rw [Rm.up2_at]
      · rw [ups_ne _ _ h3]
        cases r with
        | cc a b =>
          show (Rm.up2 m.c i j l a b).map nv = (m.c a b).map nv
          rw [Rm.up2_ne _ _ (fun h => h3 (by rw [h.1, h.2]))]
        | cr a =>
          show (List.range (m.cc a)).map _ = (List.range (m.cc a)).map _
          refine List.map_congr_left fun b _ => ?_
          exact ups_ne _ _ (by intro e; cases e; exact hr rfl)
        | _ => simp [Rm.cont, ups]
  · intro r
    by_cases h3 : r = .cc i j
    · subst h3; rw [ups_at]
      intro e
      rcases hv _ e with e | e
      · exact H.me _ e
      · have := H.cl.lt; omega
    · rw [ups_ne _ _ h3]; exact H.me _
end
end
end Go.Arm
