/- The closed evaluator, part 6: append, copy, clear, len, cap. -/
import Derived.Test.YtdaedcoolcicoaaX5
namespace Go.X
noncomputable section
open Go Go.RowKit
variable {w0 w w' : World} {φ φ' : Phi} {h h' : AH} {P : Program}

theorem LR.mem_one {l l' : List Value} (hl : LR φ l l') (h1 : l.all (·.oneCell') = true) : ∀ v, v ∈ l' → v.oneCell' = true := by
  induction hl with
  | nil => intro v hv; simp at hv
  | cons h _ ih =>
    simp only [List.all_cons, Bool.and_eq_true] at h1
    intro v hv
    rcases List.mem_cons.1 hv with e | e
    · rw [e, h.one]; exact h1.1
    · exact ih h1.2 v e
theorem run_storeCells_add {b o k : Nat} : ∀ (vs : List Value) (q : Nat) (w : World), (storeCells ((⟨b, o, none⟩ : Addr).add k) vs q).run P w = (storeCells ⟨b, o, none⟩ vs (k + q)).run P w := by
  intro vs
  induction vs with
  | nil => intro q w; simp [storeCells]
  | cons x vs ih =>
    intro q w
    simp only [storeCells, Sem.run_bind]
    have e : ((⟨b, o, none⟩ : Addr).add k).add q = (⟨b, o, none⟩ : Addr).add (k + q) := by rw [addEq, addEq, addEq, Nat.add_assoc]
    rw [e]
    congr 1
    funext u w3
    rw [ih (q + 1) w3, Nat.add_assoc]
theorem run_storeCells_row {g o t : Nat} {vs : List Value} {cur : Array Value} {w : World} (hg : w.heap[g]? = some (.cells cur t (0, 0))) (hl : o + vs.length ≤ cur.size) (h1 : ∀ v, v ∈ vs → v.oneCell' = true) :
    (storeCells ⟨g, o, none⟩ vs).run P w = .ok () (w.setRow g (cur.toList.take o ++ vs ++ cur.toList.drop (o + vs.length)).toArray) := by
  have := run_storeCells_at (P := P) g o t vs 0 cur w hg (by simpa using hl) h1
  simpa using this
/-- Append in place behind what is known: the old name is given up. -/
theorem sim_inplace (r : R w0 φ h w) {a a' : Addr} {i : Im} {k l n c' b : Nat} {el : TypeId} {by_ : Nat} {zero : Array Value} {old new new' : List Value} (h1 : new.all (·.oneCell') = true) {nn : Nat}
    (hi : φ a.block = some i) (hop : opOf h a.block = some (nn, k)) (hold : h.cells a 0 (l * k) = some old) (hs : ({ h with m := h.m.set a.block none } : AH).newo (old ++ new) k = some (b, h'))
    (hn : LR φ new new') (hlen : new.length = n * k) (he : i.e = k) (hz : a.off + i.d + c' * i.e ≤ i.sz) (ha : 0 < c' → a' = ⟨i.c, a.off + i.d, none⟩) (hroom : l + n ≤ c') :
    SimV w0 P φ h w (appTo k el by_ zero (some a') l c' n new') (.slice (some ⟨b, 0, none⟩) (l + n) open_) h' := by
  have hpos := newo_pos hs
  obtain ⟨old', ho1, ho2, ho3⟩ := r.cells hi _ _ hold
  have hob : ∃ c nn', h.m.get a.block = some (.cells c nn' k false) := by
    unfold opOf at hop
    split at hop
    · rename_i c n' op' hg; cases hop; exact ⟨c, _, hg⟩
    · cases hop
  obtain ⟨cc, n1, hg⟩ := hob
  obtain ⟨_, _, _, arr, el', hw, hsz, _, _⟩ := r.dom _ _ _ hi hg
  have hb : a.block < T.top := Nat.lt_of_lt_of_le (r.lt _ _ hi).2 r.nx
  have rd := r.drop a.block hb
  have free : ∀ b j o', φ b = some j → (h.m.set a.block none).get b = some o' → j.c ≠ i.c := by
    intro b j o' hj hgo hc
    rw [T.get_set hb] at hgo
    by_cases e : b = a.block
    · rw [if_pos e] at hgo; cases hgo
    · rw [if_neg e] at hgo; exact e (r.inj _ _ _ _ _ _ hj hi hgo hg hc)
  have hlow : w0.heap.size ≤ i.c := r.low _ _ _ hi hg rfl
  have hll : (old' ++ new').length = (l + n) * k := by rw [List.length_append, ho1, ← hn.length, hlen, Nat.add_mul]
  have hkk : (l + n) * k ≤ c' * k := Nat.mul_le_mul_right k hroom
  rw [he] at hz
  have hold' : ∀ j v, old'[j]? = some v → arr[a.off + i.d + j]? = some v := by
    intro j v hj
    have := ho2 j v hj
    rw [Nat.zero_add] at this
    simpa [World.cell?, hw] using this
  have hnl : new'.length = n * k := by rw [← hn.length, hlen]
  have hm := Nat.add_mul l n k
  let o := a.off + i.d + l * k
  let arr' : Array Value := (arr.toList.take o ++ new' ++ arr.toList.drop (o + new'.length)).toArray
  have hosz : o + new'.length ≤ arr.size := by rw [hsz, hnl]; show a.off + i.d + l * k + n * k ≤ i.sz; omega
  have hw2 : (w.setRow i.c arr').heap[i.c]? = some (.cells arr' el' (0, 0)) := setRow_heap w i.c arr arr' el' (0, 0) hw
  have hsz2 : arr'.size = i.sz := by
    show (arr.toList.take o ++ new' ++ arr.toList.drop (o + new'.length)).toArray.size = i.sz
    rw [List.size_toArray, List.length_append, List.length_append, List.length_take, List.length_drop, Array.length_toList]
    omega
  have rf : R w0 φ { h with m := h.m.set a.block none } (w.setRow i.c arr') := rd.setFree free hlow
  obtain ⟨φ', nx, hb', r'⟩ := rf.newo (sz := i.sz) (d := a.off + i.d) hs (ho3.append hn) hw2 hsz2 (by rw [(ho3.append hn).length, hll]; omega) (fun j v hj => by
      show (arr.toList.take o ++ new' ++ arr.toList.drop (o + new'.length)).toArray[j + (a.off + i.d)]? = some v
      rw [List.getElem?_toArray]
      have hjl := (List.getElem?_eq_some_iff.1 hj).1
      rw [hll] at hjl
      have htl : (arr.toList.take o).length = o := by rw [List.length_take, Array.length_toList]; omega
      by_cases hjo : j < l * k
      · rw [List.getElem?_append_left (by omega)] at hj
        rw [List.append_assoc, List.getElem?_append_left (by rw [htl]; show j + (a.off + i.d) < a.off + i.d + l * k; omega), List.getElem?_take, if_pos (by show j + (a.off + i.d) < a.off + i.d + l * k; omega)]
        have := hold' j v hj
        rw [Nat.add_comm j]
        simpa using this
      · rw [List.getElem?_append_right (by omega), ho1] at hj
        rw [List.append_assoc, List.getElem?_append_right (by rw [htl]; show a.off + i.d + l * k ≤ j + (a.off + i.d); omega), htl, List.getElem?_append_left (by rw [hnl]; show j + (a.off + i.d) - (a.off + i.d + l * k) < n * k; omega)]
        rw [show j + (a.off + i.d) - o = j - l * k by show j + (a.off + i.d) - (a.off + i.d + l * k) = j - l * k; omega]
        exact hj) free hlow
  have nx' : Nx φ φ' h h' := (Nx.drop hi hb).trans nx
  refine ⟨.slice (some a') (l + n) c', w.setRow i.c arr', φ', ?_, nx', r', ?_⟩
  · unfold appTo
    rw [if_pos hroom]
    have hst : (storeCells (a'.add (l * k)) new').run P w = .ok () (w.setRow i.c arr') := by
      by_cases hc0 : c' = 0
      · have e2 : n = 0 := by omega
        subst e2
        have hnil : new' = [] := List.eq_nil_of_length_eq_zero (by simpa using hnl)
        have earr : arr' = arr := by
          show (arr.toList.take o ++ new' ++ arr.toList.drop (o + new'.length)).toArray = arr
          rw [hnil]; simp
        rw [earr, setRow_self w i.c arr el' (0, 0) hw, hnil]
        simp [storeCells]
      · rw [ha (by omega), run_storeCells_add]
        have := run_storeCells_row (P := P) (o := o) hw hosz (hn.mem_one h1)
        rw [Nat.add_zero]
        have e : (storeCells ⟨i.c, a.off + i.d, none⟩ new' (l * k)).run P w = (storeCells ⟨i.c, o, none⟩ new').run P w := by
          have := run_storeCells_add (P := P) (b := i.c) (o := a.off + i.d) (k := l * k) new' 0 w
          rw [Nat.add_zero] at this
          rw [← this, addEq]
        rw [e]; exact this
    simp [hst]
  · refine .opens (a := ⟨b, 0, none⟩) ⟨i.c, a.off + i.d, (old ++ new).length, i.sz, k⟩ hb' rfl hpos hroom ?_ ?_ (fun hp => by rw [ha hp]; simp)
    · show (old ++ new).length ≤ 0 + c' * k
      rw [(ho3.append hn).length, hll]; omega
    · show 0 + (a.off + i.d) + c' * k ≤ i.sz
      omega
theorem sim_appTo (r : R w0 φ h w) {k n : Nat} {el : TypeId} {by_ : Nat} {zero : Value} {s s' v : Value} {new new' : List Value} (hz : (cellsL zero).length = k) (h1 : new.all (·.oneCell') = true)
    (hs : aAppendTo k s n new h = some (v, h')) (hv : VR φ s s') (hn : LR φ new new') (hlen : new.length = n * k) :
    ∃ base l c, s' = .slice base l c ∧ (∃ b0 c0, s = .slice b0 l c0) ∧ SimV w0 P φ h w (appTo k el by_ zero.cells base l c n new') v h' := by
  unfold aAppendTo at hs
  split at hs
  · rename_i l c
    cases hv
    split at hs
    · rename_i hc
      obtain ⟨rfl, rfl⟩ := hc
      refine ⟨none, 0, 0, rfl, ⟨none, 0, rfl⟩, ?_⟩
      split at hs
      · rename_i h0
        cases hs
        subst h0
        refine .here r (v' := .slice none 0 0) ?_ (.nils 0 0)
        simp [appTo]
      · rename_i h0
        split at hs
        · rename_i b h2 hnew
          cases hs
          have := sim_grow (P := P) (el := el) (by_ := by_) (zero := zero) (base := none) (l := 0) (c := 0) (n := n) (k := k) (old := []) (old' := []) r hz (by omega) hnew (fun w1 _ => by simp [Builtin.firstCells]) .nil hn (by simpa using hlen)
          simpa using this
        · cases hs
    · cases hs
  · rename_i a l c
    have fits : ∀ {i : Im} {c' : Nat} {h' : AH}, φ a.block = some i → h.setcs a (l * k) new = some h' → l + n ≤ c' → ∃ w2, (appTo k el by_ zero.cells (some ⟨i.c, a.off + i.d, none⟩) l c' n new').run P w = .ok (.slice (some ⟨i.c, a.off + i.d, none⟩) (l + n) c') w2 ∧ Nx φ φ h h' ∧ R w0 φ h' w2 := by
      intro i c' h' hi hset hroom
      obtain ⟨w2, hw2, r2⟩ := R.setcs (P := P) hi _ _ r hset hn
      have hnx := Nx.setcs hi (Nat.lt_of_lt_of_le (r.lt _ _ hi).2 r.nx) _ _ hset
      refine ⟨w2, ?_, hnx, r2⟩
      have e0 := run_storeCells_add (P := P) (b := i.c) (o := a.off + i.d) (k := l * k) new' 0 w
      rw [Nat.add_zero, hw2] at e0
      simp [appTo, hroom, e0]
    split at hs
    · rename_i hc
      subst hc
      obtain ⟨a', c', i, rfl, hi, hsp, he, hlc, hnn, hzz, ha⟩ := hv.sl_invO
      refine ⟨some a', l, c', rfl, ⟨some a, _, rfl⟩, ?_⟩
      split at hs
      · rename_i nn op hop
        obtain ⟨hin, hie⟩ := r.opOf hi hop
        split at hs
        · rename_i hk
          subst hk
          split at hs
          · rename_i hfit
            split at hs
            · rename_i h2 hset
              cases hs
              have hroom : l + n ≤ c' := by
                rw [hie] at hnn
                have h3 : (l + n) * op ≤ c' * op := by omega
                exact Nat.le_of_mul_le_mul_right h3 (by rw [← hie]; exact he)
              by_cases hl0 : l + n = 0
              · have hn0 : n = 0 := by omega
                subst hn0
                have hnil : new = [] := List.eq_nil_of_length_eq_zero (by simpa using hlen)
                subst hnil
                cases hn
                simp only [AH.setcs] at hset
                cases hset
                refine .here r (v' := .slice (some a') (l + 0) c') ?_ (.opens i hi hsp he (by omega) hnn hzz ha)
                unfold appTo
                rw [if_pos hroom]
                simp [storeCells]
              · obtain rfl := ha (by omega)
                obtain ⟨w2, h3, h4, h5⟩ := fits hi hset hroom
                exact ⟨_, w2, φ, h3, h4, h5, .opens i hi hsp he hroom hnn hzz ha⟩
            · cases hs
          · rename_i hfit
            split at hs
            · rename_i old hold
              split at hs
              · rename_i b h2 hnew
                cases hs
                by_cases hroom : l + n ≤ c'
                · exact sim_inplace r h1 hi hop hold hnew hn hlen hie hzz ha hroom
                · have hb : a.block < T.top := Nat.lt_of_lt_of_le (r.lt _ _ hi).2 r.nx
                  obtain ⟨old', ho1, ho2, ho3⟩ := r.cells hi _ _ hold
                  have hf : ∀ w1 : World, w1.heap = w.heap → (Builtin.firstCells op l (.slice (some a') l c')).run P w1 = .ok ⟨old'⟩ w1 := by
                    intro w1 hw1
                    unfold Builtin.firstCells
                    by_cases hl0 : l = 0
                    · subst hl0
                      have : old' = [] := List.eq_nil_of_length_eq_zero (by simpa using ho1)
                      subst this
                      simp [loadCells, loadCellsFrom]
                    · rw [ha (by omega)]
                      exact run_loadCells_at ho1 (fun j v hj => by
                        have := ho2 j v hj
                        rw [Nat.zero_add] at this
                        simp only [World.cell?] at this ⊢
                        rw [hw1]; exact this)
                  have := sim_grow (P := P) (el := el) (by_ := by_) (zero := zero) (base := some a') (l := l) (c := c') (n := n) (k := op) (r.drop a.block hb) hz (by omega) hnew hf ho3 hn (by rw [List.length_append, hlen, ho3.length, ho1, Nat.add_mul])
                  obtain ⟨v', w', φ', h3, h4, h5, h6⟩ := this
                  exact ⟨v', w', φ', h3, (Nx.drop hi hb).trans h4, h5, h6⟩
              · cases hs
            · cases hs
        · cases hs
      · cases hs
    · rename_i hc
      split at hs
      · rename_i hroom
        split at hs
        · rename_i h0
          cases hs
          subst h0
          have hnil : new = [] := List.eq_nil_of_length_eq_zero (by simpa using hlen)
          subst hnil
          cases hn
          have : ∃ a', s' = .slice (some a') l c := by
            by_cases h00 : c = 0
            · subst h00; obtain ⟨a', rfl⟩ := hv.sl_inv0; exact ⟨a', rfl⟩
            · obtain ⟨i, _, _, rfl⟩ := hv.sl_inv h00 hc; exact ⟨_, rfl⟩
          obtain ⟨a', rfl⟩ := this
          refine ⟨some a', l, c, rfl, ⟨some a, c, rfl⟩, .here r (v' := .slice (some a') l c) ?_ hv⟩
          unfold appTo
          rw [if_pos hroom]
          simp [storeCells]
        · rename_i h0
          split at hs
          · rename_i h2 hset
            cases hs
            obtain ⟨i, hi, hsp, rfl⟩ := hv.sl_inv (by omega) hc
            refine ⟨_, l, c, rfl, ⟨some a, c, rfl⟩, ?_⟩
            obtain ⟨w2, h3, h4, h5⟩ := fits hi hset hroom
            exact ⟨_, w2, φ, h3, h4, h5, .slice i hi hsp hc⟩
          · cases hs
      · rename_i hroom
        split at hs
        · rename_i old hold
          split at hs
          · rename_i b h2 hnew
            cases hs
            have : ∃ a', s' = .slice (some a') l c ∧ ∃ old', old'.length = l * k ∧ (∀ w1 : World, w1.heap = w.heap → (Builtin.firstCells k l (.slice (some a') l c)).run P w1 = .ok ⟨old'⟩ w1) ∧ LR φ old old' := by
              by_cases hl0 : l = 0
              · subst hl0
                rw [if_pos rfl] at hold
                cases hold
                have : ∃ a', s' = .slice (some a') 0 c := by
                  by_cases h00 : c = 0
                  · subst h00; obtain ⟨a', rfl⟩ := hv.sl_inv0; exact ⟨a', rfl⟩
                  · obtain ⟨i, _, _, rfl⟩ := hv.sl_inv h00 hc; exact ⟨_, rfl⟩
                obtain ⟨a', rfl⟩ := this
                exact ⟨a', rfl, [], by simp, fun w1 _ => by simp [Builtin.firstCells, loadCells, loadCellsFrom], .nil⟩
              · rw [if_neg hl0] at hold
                split at hold
                · cases hold
                · rename_i h00
                  obtain ⟨i, hi, hsp, rfl⟩ := hv.sl_inv h00 hc
                  obtain ⟨old', ho1, ho2, ho3⟩ := r.cells hi _ _ hold
                  refine ⟨_, rfl, old', ho1, fun w1 hw1 => ?_, ho3⟩
                  unfold Builtin.firstCells
                  exact run_loadCells_at ho1 (fun j v hj => by
                    have := ho2 j v hj
                    rw [Nat.zero_add] at this
                    simp only [World.cell?] at this ⊢
                    rw [hw1]; exact this)
            obtain ⟨a', rfl, old', ho1, hf, ho3⟩ := this
            exact ⟨_, l, c, rfl, ⟨some a, c, rfl⟩, sim_grow r hz (by omega) hnew hf ho3 hn (by rw [List.length_append, hlen, ho3.length, ho1, Nat.add_mul])⟩
          · cases hs
        · cases hs
  · cases hs
end
end Go.X
