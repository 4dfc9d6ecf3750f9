/- Plain laws. -/
import Derived.Test.YtmojccilbgjngaaPl12
namespace Go.Arm
open Go

def isB (l : List Block) (q : Int) : Bool := l.any (fun b => decide (b.Proc = q))
theorem isB_iff {l : List Block} {q : Int} : isB l q = true ↔ ∃ b ∈ l, b.Proc = q := by
  unfold isB; rw [List.any_eq_true]; simp
def nxF (l : List Block) (b : Block) : Option (Int × Int) := (b.For.find? (isB l)).map (fun q => (b.Proc, q))
def nxt (l : List Block) : List (Int × Int) := l.filterMap (nxF l)

theorem bfun_eq (N : Nat) (l : List Block) (q : Int) (hN : 1300 ≤ N) (hl : l.length ≤ 1000) : slices_ContainsFunc_Ldead_Block_dead_Block N l (fun x => dead_Cycle_1 N x q) = some (isB l q) := by
  unfold slices_ContainsFunc_Ldead_Block_dead_Block slices_IndexFunc_Ldead_Block_dead_Block
  have h := loop_ret0 (F := slices_IndexFunc_Ldead_Block_dead_Block_l1 N l (fun x => dead_Cycle_1 N x q)) (len := l.length) (m := N) (fun k => if (l[k]?.map (·.Proc)) = some q then some (k : Int) else none) (by omega)
    (fun m k hk => by rw [slices_IndexFunc_Ldead_Block_dead_Block_l1, if_neg (by simpa using hk)])
    (fun m k hk => by
      rw [slices_IndexFunc_Ldead_Block_dead_Block_l1, if_pos (by simpa using hk), idx_nat, List.getElem?_eq_getElem hk, Option.bind_some, dead_Cycle_1, Option.bind_some]
      by_cases hd : l[k].Proc = q
      · rw [if_pos (by simpa using hd), if_pos (by simp [hd])]
      · rw [if_neg (by simpa using hd), if_neg (by simp [hd]), chk_t (inR_small (by omega) (by omega))]; rfl)
  rcases h with ⟨h, hall⟩ | ⟨k, r, hk, hg, h, _⟩
  · rw [h]
    have : isB l q = false := by
      apply Bool.eq_false_iff.2
      intro hb
      obtain ⟨b, hb, hq⟩ := isB_iff.1 hb
      obtain ⟨k, hk⟩ := List.getElem?_of_mem hb
      have := hall k (List.getElem?_eq_some_iff.1 hk).1
      rw [hk] at this
      simp [hq] at this
    rw [this]; rfl
  · rw [h]
    by_cases hp : l[k].Proc = q
    · rw [List.getElem?_eq_getElem hk] at hg
      simp [hp] at hg
      have : isB l q = true := isB_iff.2 ⟨l[k], List.getElem_mem hk, hp⟩
      rw [this, ← hg]
      simp
    · rw [List.getElem?_eq_getElem hk] at hg
      simp [hp] at hg
theorem cyc_l2 (N : Nat) (l : List Block) (e0 : Int) (b : Block) (x : List (Int × Int)) (hN : 1300 ≤ N) (hl : l.length ≤ 1000) (hb : b.For.length ≤ 1000) : ∀ (m k : Nat), b.For.length - k < m → (∀ j q, j < k → b.For[j]? = some q → isB l q = false) →
    dead_Cycle_l2 N (l, e0) b m (k : Int) x = some (match b.For.find? (isB l) with | none => x | some q => mset x b.Proc q) := by
  intro m
  induction m with
  | zero => intro k h; omega
  | succ m ih =>
    intro k h hno
    rw [dead_Cycle_l2]
    by_cases hk : k < b.For.length
    · have hR : inR ((k : Int) + 1) := inR_small (by omega) (by omega)
      have e : (k : Int) + 1 = ((k + 1 : Nat) : Int) := rfl
      rw [if_pos (by simpa using hk), idx_nat, List.getElem?_eq_getElem hk, Option.bind_some]
      dsimp only
      rw [bfun_eq N l _ hN hl, Option.bind_some]
      cases hq : isB l b.For[k]
      · rw [if_neg (by simp), chk_t hR, e]
        refine ih (k + 1) (by omega) (fun j q hj hjq => ?_)
        rcases Nat.lt_or_ge j k with h1 | h1
        · exact hno j q h1 hjq
        · have : j = k := by omega
          subst this
          rw [List.getElem?_eq_getElem hk] at hjq
          cases hjq
          exact hq
      · rw [if_pos rfl]
        have : b.For.find? (isB l) = some b.For[k] := by
          rw [List.find?_eq_some_iff_getElem]
          refine ⟨hq, k, hk, rfl, fun j hj => ?_⟩
          have := hno j _ hj (List.getElem?_eq_getElem (by omega))
          simp [this]
        rw [this]
    · rw [if_neg (by simpa using hk)]
      have : b.For.find? (isB l) = none := by
        rw [List.find?_eq_none]
        intro q hq
        obtain ⟨j, hj⟩ := List.getElem?_of_mem hq
        have := hno j q (by have := (List.getElem?_eq_some_iff.1 hj).1; omega) hj
        simp [this]
      rw [this]
theorem cyc_l1 (N : Nat) (l : List Block) (e0 : Int) (hN : 1300 ≤ N) (hl : l.length ≤ 1000) (hfor : ∀ b ∈ l, b.For.length ≤ 1000) (hnd : (l.map (·.Proc)).Nodup) : ∀ (m k : Nat), l.length - k < m → k ≤ l.length →
    dead_Cycle_l1 N (l, e0) m (k : Int) ((l.take k).filterMap (nxF l)) = some (nxt l) := by
  intro m
  induction m with
  | zero => intro k h; omega
  | succ m ih =>
    intro k h hk2
    rw [dead_Cycle_l1]
    by_cases hk : k < l.length
    · have hR : inR ((k : Int) + 1) := inR_small (by omega) (by omega)
      have e : (k : Int) + 1 = ((k + 1 : Nat) : Int) := rfl
      have hl2 := cyc_l2 N l e0 l[k] ((l.take k).filterMap (nxF l)) hN hl (hfor _ (List.getElem_mem hk)) N 0 (by have := hfor _ (List.getElem_mem hk); omega) (fun j q hj => by omega)
      rw [show ((0 : Nat) : Int) = 0 from rfl] at hl2
      rw [if_pos (by simpa using hk), idx_nat, List.getElem?_eq_getElem hk, Option.bind_some, hl2, Option.bind_some, chk_t hR, e]
      have hgo := ih (k + 1) (by omega) (by omega)
      rw [List.take_succ_eq_append_getElem hk, List.filterMap_append] at hgo
      have hn : [l[k]].filterMap (nxF l) = (nxF l l[k]).toList := by
        cases hx : nxF l l[k] <;> simp [hx]
      rw [hn] at hgo
      have hnx : nxF l l[k] = (l[k].For.find? (isB l)).map (fun q => (l[k].Proc, q)) := rfl
      rw [hnx] at hgo
      cases hf : l[k].For.find? (isB l) with
      | none => rw [hf] at hgo; simpa using hgo
      | some q =>
        rw [hf] at hgo
        have hfresh : ∀ e', e' ∈ (l.take k).filterMap (nxF l) → e'.1 ≠ l[k].Proc := by
          intro e' he'
          rw [List.mem_filterMap] at he'
          obtain ⟨b, hb, hbe⟩ := he'
          unfold nxF at hbe
          cases hfb : b.For.find? (isB l) with
          | none => rw [hfb] at hbe; cases hbe
          | some q' =>
            rw [hfb] at hbe
            simp at hbe
            rw [← hbe]
            obtain ⟨i, hi⟩ := List.getElem?_of_mem hb
            rw [List.getElem?_take] at hi
            split at hi
            · obtain ⟨hi1, hi2⟩ := List.getElem?_eq_some_iff.1 hi
              have h1 := List.pairwise_iff_getElem.1 hnd i k (by simpa using hi1) (by simpa using hk) ‹_›
              simp only [List.getElem_map, hi2] at h1
              exact h1
            · cases hi
        rw [show (match some q with | none => (l.take k).filterMap (nxF l) | some q => mset ((l.take k).filterMap (nxF l)) l[k].Proc q) = mset ((l.take k).filterMap (nxF l)) l[k].Proc q from rfl, mset_new hfresh]
        simpa using hgo
    · rw [if_neg (by simpa using hk), List.take_of_length_le (by omega)]; rfl
theorem nx_some {l : List Block} {p q : Int} (h : mget (nxt l) p = some q) : ∃ b ∈ l, b.Proc = p ∧ q ∈ b.For ∧ isB l q = true := by
  unfold mget at h
  cases hf : (nxt l).find? (fun e => e.1 == p) with
  | none => rw [hf] at h; cases h
  | some e =>
    rw [hf] at h
    simp at h
    have h1 := List.find?_some hf
    have h2 := List.mem_of_find?_eq_some hf
    simp at h1
    unfold nxt at h2
    rw [List.mem_filterMap] at h2
    obtain ⟨b, hb, hbe⟩ := h2
    unfold nxF at hbe
    cases hfb : b.For.find? (isB l) with
    | none => rw [hfb] at hbe; cases hbe
    | some q' =>
      rw [hfb] at hbe
      simp at hbe
      subst hbe
      simp at h h1
      subst h h1
      exact ⟨b, hb, rfl, List.mem_of_find?_eq_some hfb, List.find?_some hfb⟩
theorem nx_none {l : List Block} {b : Block} (hb : b ∈ l) (h : mget (nxt l) b.Proc = none) : ∀ q ∈ b.For, isB l q = false := by
  unfold mget at h
  rw [Option.map_eq_none_iff, List.find?_eq_none] at h
  have hf : b.For.find? (isB l) = none := by
    cases hf : b.For.find? (isB l) with
    | none => rfl
    | some q =>
      have := h (b.Proc, q) (by
        unfold nxt
        rw [List.mem_filterMap]
        exact ⟨b, hb, by unfold nxF; rw [hf]; rfl⟩)
      simp at this
  rw [List.find?_eq_none] at hf
  intro q hq
  simpa using hf q hq

theorem iidx_eq (N : Nat) (l : List Int) (a : Int) (hN : 1300 ≤ N) (hl : l.length ≤ 1000) : (slices_Index_Lint_int N l a = some (-1) ∧ a ∉ l) ∨ ∃ k : Nat, slices_Index_Lint_int N l a = some (k : Int) ∧ l[k]? = some a := by
  unfold slices_Index_Lint_int
  have h := loop_ret0 (F := slices_Index_Lint_int_l1 N l a) (len := l.length) (m := N) (fun k => if l[k]? = some a then some (k : Int) else none) (by omega)
    (fun m k hk => by rw [slices_Index_Lint_int_l1, if_neg (by simpa using hk)])
    (fun m k hk => by
      rw [slices_Index_Lint_int_l1, if_pos (by simpa using hk), idx_nat, List.getElem?_eq_getElem hk]
      by_cases hd : a = l[k]
      · simp [hd]
      · rw [Option.bind_some, if_neg (by simpa using hd), chk_t (inR_small (by omega) (by omega)), if_neg (by simpa using fun e => hd e.symm)]; rfl)
  rcases h with ⟨h, hall⟩ | ⟨k, r, hk, hg, h, _⟩
  · left
    rw [h]
    refine ⟨rfl, fun hm => ?_⟩
    obtain ⟨k, hk⟩ := List.getElem?_of_mem hm
    have hkl := (List.getElem?_eq_some_iff.1 hk).1
    have := hall k hkl
    rw [if_pos hk] at this
    cases this
  · right
    rw [h]
    by_cases hk2 : l[k]? = some a
    · rw [if_pos hk2] at hg
      cases hg
      exact ⟨k, rfl, hk2⟩
    · rw [if_neg hk2] at hg; cases hg
theorem ihas_eq (N : Nat) (l : List Int) (a : Int) (hN : 1300 ≤ N) (hl : l.length ≤ 1000) : slices_Contains_Lint_int N l a = some (decide (a ∈ l)) := by
  unfold slices_Contains_Lint_int
  rcases iidx_eq N l a hN hl with ⟨h, hm⟩ | ⟨k, h, hk⟩
  · rw [h]; simp [hm]
  · rw [h]
    have := List.mem_of_getElem? hk
    simp [this]
theorem imin_l1 (N : Nat) (l : List Int) (hl : l.length ≤ 1000) : ∀ (m k : Nat) (x : Int), l.length - k < m → k ≤ l.length → x ∈ l → (∀ y ∈ l.take k, x ≤ y) → ∃ z, slices_Min_Lint_int_l1 N l m x (k : Int) = some z ∧ z ∈ l ∧ ∀ y ∈ l, z ≤ y := by
  intro m
  induction m with
  | zero => intro k x h; omega
  | succ m ih =>
    intro k x h hk hx hle
    rw [slices_Min_Lint_int_l1]
    by_cases hkl : k < l.length
    · have hR : inR ((k : Int) + 1) := inR_small (by omega) (by omega)
      have e : (k : Int) + 1 = ((k + 1 : Nat) : Int) := rfl
      rw [if_pos (by simpa using hkl), idx_nat, List.getElem?_eq_getElem hkl, Option.bind_some, chk_t hR, e]
      refine ih (k + 1) _ (by omega) (by omega) ?_ ?_
      · rcases Int.le_total x l[k] with h1 | h1
        · rw [Int.min_eq_left h1]; exact hx
        · rw [Int.min_eq_right h1]; exact List.getElem_mem hkl
      · rw [List.take_succ_eq_append_getElem hkl]
        intro y hy
        rw [List.mem_append] at hy
        rcases hy with hy | hy
        · have := hle y hy; omega
        · simp at hy; omega
    · rw [if_neg (by simpa using hkl)]
      rw [List.take_of_length_le (by omega)] at hle
      exact ⟨x, rfl, hx, hle⟩
theorem imin_eq (N : Nat) (l : List Int) (hN : 1300 ≤ N) (hl : l.length ≤ 1000) (hne : l ≠ []) : ∃ z, slices_Min_Lint_int N l = some z ∧ z ∈ l ∧ ∀ y ∈ l, z ≤ y := by
  have hpos : 0 < l.length := List.length_pos_iff.2 hne
  unfold slices_Min_Lint_int
  rw [if_neg (by simp; omega), show (0 : Int) = ((0 : Nat) : Int) from rfl, idx_nat, List.getElem?_eq_getElem hpos, Option.bind_some]
  obtain ⟨z, h1, h2, h3⟩ := imin_l1 N l hl N 1 l[0] (by omega) (by omega) (List.getElem_mem hpos) (by
    intro y hy
    rw [show 1 = 0 + 1 from rfl, List.take_succ_eq_append_getElem hpos] at hy
    simp at hy
    omega)
  rw [show ((1 : Nat) : Int) = 1 from rfl] at h1
  rw [h1]
  exact ⟨z, rfl, h2, h3⟩
theorem iconcat_eq (N : Nat) (a b : List Int) (hN : 1300 ≤ N) (hl : a.length + b.length ≤ 1000) : slices_Concat_Lint_int N [a, b] = some (a ++ b) := by
  obtain ⟨M, rfl⟩ : ∃ M, N = M + 4 := ⟨N - 4, by omega⟩
  unfold slices_Concat_Lint_int
  have e1 : slices_Concat_Lint_int_l1 (M + 4) [a, b] (M + 4) 0 0 = some ((a.length + b.length : Nat) : Int) := by
    rw [slices_Concat_Lint_int_l1, if_pos (by simp), show idx [a, b] 0 = some a from rfl, Option.bind_some, chk_t (inR_small (by omega) (by omega)), if_neg (by simp only [decide_eq_true_eq]; omega), chk_t (inR_small (by omega) (by omega)),
      slices_Concat_Lint_int_l1, if_pos (by simp), show idx [a, b] (0 + 1) = some b from rfl, Option.bind_some, chk_t (inR_small (by omega) (by omega)), if_neg (by simp; omega), chk_t (inR_small (by omega) (by omega)),
      slices_Concat_Lint_int_l1, if_neg (by simp)]
    congr 1
    simp
  have e2 : slices_Grow_Lint_int (M + 4) ((a.length + b.length : Nat) : Int) = some [] := by
    unfold slices_Grow_Lint_int
    rw [if_neg (by simp; omega), chk_t (inR_small (by omega) (by omega)), chk_t (inR_small (by omega) (by omega))]
    split
    · rename_i h
      simp only [decide_eq_true_eq] at h
      rw [chk_t rfl, chk_t ⟨h, by omega, small_len (by omega)⟩, chk_t (by rfl)]
    · rfl
  have e3 : slices_Concat_Lint_int_l2 (M + 4) [a, b] (M + 4) [] 0 = some (a ++ b) := by
    rw [slices_Concat_Lint_int_l2, if_pos (by simp), show idx [a, b] 0 = some a from rfl, Option.bind_some, chk_t ⟨by simp; omega, small_len (by simp; omega)⟩, chk_t (inR_small (by omega) (by omega)),
      slices_Concat_Lint_int_l2, if_pos (by simp), show idx [a, b] (0 + 1) = some b from rfl, Option.bind_some, chk_t ⟨by simp; omega, small_len (by simp; omega)⟩, chk_t (inR_small (by omega) (by omega)),
      slices_Concat_Lint_int_l2, if_neg (by simp)]
    simp
  rw [e1, Option.bind_some]
  dsimp only
  rw [e2, Option.bind_some, e3]
  rfl

/-- A way along the waits. -/
structure Way (l : List Block) (path : List Int) (p : Int) (is : Bool) : Prop where
  nodup : path.Nodup
  blk : ∀ a ∈ path, isB l a = true
  chain : ∀ (i : Nat) (a b : Int), path[i]? = some a → path[i + 1]? = some b → mget (nxt l) a = some b
  last : ∀ (i : Nat) (a : Int), path[i]? = some a → i + 1 = path.length → (is = true ∧ mget (nxt l) a = some p) ∨ (is = false ∧ mget (nxt l) a = none)
  here : is = true → isB l p = true
  start : path = [] → is = true
theorem Way.short {l : List Block} {path : List Int} {p : Int} {is : Bool} (h : Way l path p is) : path.length ≤ l.length := by
  have h1 : path ⊆ l.map (·.Proc) := by
    intro a ha
    obtain ⟨b, hb, e⟩ := isB_iff.1 (h.blk a ha)
    exact List.mem_map.2 ⟨b, hb, e⟩
  have := h.nodup.length_le_of_subset h1
  simpa using this
theorem way_step {l : List Block} {path : List Int} {p : Int} (h : Way l path p true) (hp : p ∉ path) : Way l (path ++ [p]) ((mget (nxt l) p).getD 0) (mget (nxt l) p).isSome := by
  refine ⟨?_, ?_, ?_, ?_, ?_, ?_⟩
  · rw [List.nodup_append]
    refine ⟨h.nodup, by simp, fun a ha b hb e => ?_⟩
    simp at hb
    subst e hb
    exact hp ha
  · intro a ha
    rw [List.mem_append] at ha
    rcases ha with ha | ha
    · exact h.blk a ha
    · simp at ha; rw [ha]; exact h.here rfl
  · intro i a b ha hb
    rcases Nat.lt_trichotomy (i + 1) path.length with hi | hi | hi
    · rw [List.getElem?_append_left (by omega)] at ha hb
      exact h.chain i a b ha hb
    · rw [List.getElem?_append_left (by omega)] at ha
      rw [List.getElem?_append_right (by omega), hi, Nat.sub_self] at hb
      simp at hb
      subst hb
      rcases h.last i a ha hi with ⟨_, e⟩ | ⟨e, _⟩
      · exact e
      · cases e
    · rw [List.getElem?_eq_none (by simp; omega)] at hb; cases hb
  · intro i a ha hi
    simp at hi
    rw [List.getElem?_append_right (by omega), show i - path.length = 0 by omega] at ha
    simp at ha
    subst ha
    cases hm : mget (nxt l) p with
    | none => right; exact ⟨rfl, rfl⟩
    | some q => left; exact ⟨rfl, rfl⟩
  · intro hs
    cases hm : mget (nxt l) p with
    | none => rw [hm] at hs; cases hs
    | some q =>
      obtain ⟨_, _, _, _, hq⟩ := nx_some hm
      exact hq
  · intro he
    simp at he
theorem cyc_l4 (N : Nat) (l : List Block) (hN : 1300 ≤ N) (hl : l.length ≤ 100) : ∀ (m : Nat) (path : List Int) (p : Int) (is : Bool), 100 - path.length < m → Way l path p is →
    ∃ path' p' is', dead_Cycle_l4 N (nxt l) m path p is = some (path', p', is') ∧ Way l path' p' is' ∧ path' ≠ [] ∧ (is' = true → p' ∈ path') := by
  intro m
  induction m with
  | zero => intro path p is h; omega
  | succ m ih =>
    intro path p is hm h
    have hs := h.short
    rw [dead_Cycle_l4]
    cases is
    · rw [if_neg (by simp), Option.bind_some]
      dsimp only
      rw [if_neg (by simp)]
      exact ⟨path, p, false, rfl, h, fun e => (by have := h.start e; cases this), fun e => by cases e⟩
    · rw [if_pos rfl, ihas_eq N path p hN (by omega), Option.bind_some, Option.bind_some]
      dsimp only
      by_cases hp : p ∈ path
      · rw [if_neg (by simp [hp])]
        exact ⟨path, p, true, rfl, h, fun e => by rw [e] at hp; simp at hp, fun _ => hp⟩
      · have hw := way_step h hp
        have hs2 := hw.short
        rw [List.length_append, List.length_singleton] at hs2
        rw [if_pos (by simp [hp]), chk_t ⟨by rw [List.length_singleton]; omega, small_len (by rw [List.length_singleton]; omega)⟩]
        exact ih _ _ _ (by rw [List.length_append, List.length_singleton]; omega) hw

/-- A circle. -/
def Circ (l : List Block) (P : List Int) : Prop := ∀ i, i < P.length → ∃ a b, P[i]? = some a ∧ P[(i + 1) % P.length]? = some b ∧ mget (nxt l) a = some b
theorem rot_get {P : List Int} {k i : Nat} (hk : k < P.length) (hi : i < P.length) : (P.drop k ++ P.take k)[i]? = P[(i + k) % P.length]? := by
  by_cases h : i < P.length - k
  · rw [List.getElem?_append_left (by simp; omega), List.getElem?_drop, Nat.mod_eq_of_lt (by omega), Nat.add_comm]
  · rw [List.getElem?_append_right (by simp; omega), List.length_drop, List.getElem?_take, if_pos (by omega)]
    congr 1
    rw [Nat.mod_eq_sub_mod (by omega), Nat.mod_eq_of_lt (by omega)]
    omega
theorem Circ.rot {l : List Block} {P : List Int} (h : Circ l P) {k : Nat} (hk : k < P.length) : Circ l (P.drop k ++ P.take k) := by
  have hlen : (P.drop k ++ P.take k).length = P.length := by simp; omega
  intro i hi
  rw [hlen] at hi ⊢
  have hpos : 0 < P.length := by omega
  obtain ⟨a, b, h1, h2, h3⟩ := h ((i + k) % P.length) (Nat.mod_lt _ hpos)
  refine ⟨a, b, ?_, ?_, h3⟩
  · rw [rot_get hk hi]; exact h1
  · rw [rot_get hk (Nat.mod_lt _ hpos), Nat.mod_add_mod]
    rw [Nat.mod_add_mod] at h2
    rw [show i + 1 + k = i + k + 1 by omega]
    exact h2
theorem Way.circ {l : List Block} {path : List Int} {p : Int} (h : Way l path p true) {j : Nat} (hj : path[j]? = some p) : Circ l (path.drop j) ∧ path.drop j ≠ [] := by
  have hjl := (List.getElem?_eq_some_iff.1 hj).1
  refine ⟨fun i hi => ?_, by intro e; have := congrArg List.length e; simp at this; omega⟩
  simp at hi
  have hi2 : j + i < path.length := by omega
  by_cases hlast : j + i + 1 = path.length
  · refine ⟨path[j + i], p, ?_, ?_, ?_⟩
    · rw [List.getElem?_drop, List.getElem?_eq_getElem hi2]
    · rw [List.length_drop, show i + 1 = path.length - j by omega, Nat.mod_self, List.getElem?_drop]; exact hj
    · rcases h.last (j + i) _ (List.getElem?_eq_getElem hi2) hlast with ⟨_, e⟩ | ⟨e, _⟩
      · exact e
      · cases e
  · have hi3 : j + i + 1 < path.length := by omega
    refine ⟨path[j + i], path[j + i + 1], ?_, ?_, ?_⟩
    · rw [List.getElem?_drop, List.getElem?_eq_getElem hi2]
    · rw [List.length_drop, Nat.mod_eq_of_lt (by omega), List.getElem?_drop, show j + (i + 1) = j + i + 1 by omega, List.getElem?_eq_getElem hi3]
    · exact h.chain (j + i) _ _ (List.getElem?_eq_getElem hi2) (List.getElem?_eq_getElem hi3)
theorem cut_end {α : Type} (l : List α) (k : Nat) (h : k ≤ l.length) : cut l (k : Int) (l.length : Int) = some (l.drop k) := by
  unfold cut; rw [if_pos ⟨by omega, by omega, by omega⟩]; simp
/-- What Cycle finds. -/
def CycOk (l : List Block) (cyc : List Int) : Prop :=
  (cyc = [] ∧ (l ≠ [] → ∃ b ∈ l, mget (nxt l) b.Proc = none)) ∨ (cyc ≠ [] ∧ cyc.length ≤ 100 ∧ Circ l cyc ∧ ∃ z, cyc[0]? = some z ∧ ∀ y ∈ cyc, z ≤ y)
theorem cyc_l3 (N : Nat) (l : List Block) (e0 : Int) (hN : 1300 ≤ N) (hl : l.length ≤ 100) : ∀ (m k : Nat), l.length - k < m → k ≤ l.length → (0 < k → ∃ b ∈ l, mget (nxt l) b.Proc = none) →
    (dead_Cycle_l3 N (l, e0) (nxt l) m (k : Int) = some (.inl ()) ∧ CycOk l []) ∨ ∃ cyc, dead_Cycle_l3 N (l, e0) (nxt l) m (k : Int) = some (.inr (cyc, 0)) ∧ CycOk l cyc := by
  intro m
  induction m with
  | zero => intro k h; omega
  | succ m ih =>
    intro k h hk2 hk0
    rw [dead_Cycle_l3]
    by_cases hk : k < l.length
    · have hR : inR ((k : Int) + 1) := inR_small (by omega) (by omega)
      have e : (k : Int) + 1 = ((k + 1 : Nat) : Int) := rfl
      rw [if_pos (by simpa using hk)]
      dsimp only
      rw [idx_nat, List.getElem?_eq_getElem hk, Option.bind_some]
      obtain ⟨path, p, is, h1, h2, h3, h4⟩ := cyc_l4 N l hN hl N [] l[k].Proc true (by simp; omega) ⟨by simp, by simp, by simp, by simp, fun _ => isB_iff.2 ⟨l[k], List.getElem_mem hk, rfl⟩, fun _ => rfl⟩
      rw [h1, Option.bind_some]
      dsimp only
      have hsh := h2.short
      cases is
      · rw [if_neg (by simp), chk_t hR, e]
        refine ih (k + 1) (by omega) (by omega) (fun _ => ?_)
        have hpos : 0 < path.length := List.length_pos_iff.2 h3
        have hlt : path.length - 1 < path.length := by omega
        obtain ⟨b, hb, hbp⟩ := isB_iff.1 (h2.blk _ (List.getElem_mem hlt))
        rcases h2.last (path.length - 1) _ (List.getElem?_eq_getElem hlt) (by omega) with ⟨e, _⟩ | ⟨_, e⟩
        · cases e
        · exact ⟨b, hb, by rw [hbp]; exact e⟩
      · right
        rw [if_pos rfl]
        rcases iidx_eq N path p hN (by omega) with ⟨_, hno⟩ | ⟨j, hj1, hj2⟩
        · exact (hno (h4 rfl)).elim
        have hjl := (List.getElem?_eq_some_iff.1 hj2).1
        obtain ⟨hcirc, hne⟩ := h2.circ hj2
        rw [hj1, Option.bind_some, cut_end path j (by omega), Option.bind_some]
        have hdl : (path.drop j).length ≤ 100 := by simp; omega
        generalize path.drop j = P at hcirc hne hdl
        obtain ⟨z, hz, hzm, hzl⟩ := imin_eq N P hN (by omega) hne
        rw [hz, Option.bind_some]
        rcases iidx_eq N P z hN (by omega) with ⟨_, hno⟩ | ⟨i, hi1, hi2⟩
        · exact (hno hzm).elim
        have hil := (List.getElem?_eq_some_iff.1 hi2).1
        rw [hi1, Option.bind_some, cut_end P i (by omega), Option.bind_some, cut_nat P i (by omega), Option.bind_some, iconcat_eq N _ _ hN (by simp; omega), Option.bind_some]
        have hlen : (P.drop i ++ P.take i).length = P.length := by simp; omega
        refine ⟨_, rfl, Or.inr ⟨?_, by omega, hcirc.rot hil, z, ?_, ?_⟩⟩
        · intro e
          rw [e] at hlen
          simp at hlen
          omega
        · rw [rot_get hil (by omega), Nat.zero_add, Nat.mod_eq_of_lt hil]; exact hi2
        · intro y hy
          rw [List.mem_append] at hy
          rcases hy with hy | hy
          · exact hzl y (List.mem_of_mem_drop hy)
          · exact hzl y (List.mem_of_mem_take hy)
    · rw [if_neg (by simpa using hk)]
      refine Or.inl ⟨rfl, Or.inl ⟨rfl, fun hne => hk0 ?_⟩⟩
      have := List.length_pos_iff.2 hne
      omega
theorem Cycle_eq {N : Nat} {c : List (List Deed)} (hN : 1300 ≤ N) (hc : CaseOk c) {room : Int} {l : List Block} (hb : dead_Blocks N c room = some (l, 0)) {f : Nat → Nat} (hB : Blks c f l) (hfor : ∀ b ∈ l, b.For.length ≤ 1000) : ∃ cyc, dead_Cycle N c room = some (cyc, 0) ∧ CycOk l cyc := by
  have hcnt := hB.cnt
  have h6 := hc.six
  unfold dead_Cycle
  rw [hb, Option.bind_some, if_neg (by simp)]
  have h1 := cyc_l1 N l 0 hN (by omega) hfor hB.nodup N 0 (by omega) (by omega)
  rw [show ((0 : Nat) : Int) = 0 from rfl, List.take_zero, List.filterMap_nil] at h1
  rw [h1, Option.bind_some]
  dsimp only
  have h2 := cyc_l3 N l 0 hN (by omega) N 0 (by omega) (by omega) (fun h => by omega)
  rw [show ((0 : Nat) : Int) = 0 from rfl] at h2
  rcases h2 with ⟨h2, h3⟩ | ⟨cyc, h2, h3⟩
  · rw [h2]; exact ⟨[], rfl, h3⟩
  · rw [h2]; exact ⟨cyc, rfl, h3⟩
end Go.Arm
