/- The closed evaluator, part 9: iterators, structs, interfaces, equality, strings. -/
import Derived.Test.YtdaedcoolcicoaaX8
namespace Go.X
noncomputable section
open Go Go.RowKit
variable {w0 w w' : World} {φ φ' : Phi} {h h' : AH} {P : Program}

/-! New objects. -/
def AH.newObj (h : AH) (o : AObj) : Option (Nat × AH) := if h.next < T.top then some (h.next, ⟨h.m.set h.next (some o), h.next + 1⟩) else none
theorem R.newObj (r : R w0 φ h w) {o : AObj} {x : Obj} {b : Nat} (hs : h.newObj o = some (b, h')) (hx : ∀ φ' w', Le φ φ' → w'.heap[w.heap.size]? = some x → OR φ' ⟨w.heap.size, 0, 0, 0, 0⟩ w' o) :
    ∃ φ', Nx φ φ' h h' ∧ φ' b = some ⟨w.heap.size, 0, 0, 0, 0⟩ ∧ R w0 φ' h' (w.alloc x) := by
  unfold AH.newObj at hs
  split at hs
  · rename_i hn
    cases hs
    obtain ⟨φ', le, h1, h2, h3⟩ := r.new (i := ⟨w.heap.size, 0, 0, 0, 0⟩) (o := o) (x := x) rfl hn hx
    exact ⟨φ', .new le h3 hn, h1, h2⟩
  · cases hs
def resOk (P : Program) (T : TypeId) : Option Value → Bool
  | none => true
  | some (.int _ _) => (match P.underlying T with | some (.map _ _) => true | _ => false)
  | _ => false
def aMakeMap (P : Program) (T : TypeId) (res : Option Value) (h : AH) : Option (Value × AH) :=
  if resOk P T res then (match h.newObj (.map [] 0 false) with
    | some (b, h') => some (.map (some b), h')
    | none => none) else none
theorem sim_makeMap (r : R w0 φ h w) {T : TypeId} {res res' : Option Value} {v : Value} (hs : aMakeMap P T res h = some (v, h')) (hr : OptR φ res res') : SimV w0 P φ h w (Instr.makeMap T res') v h' := by
  unfold aMakeMap at hs
  by_cases hc : resOk P T res = true
  · rw [if_pos hc] at hs
    split at hs
    · rename_i b h1 hn
      cases hs
      obtain ⟨φ', nx, hb, r'⟩ := r.newObj (x := .map #[] 0) hn (fun φ' w' _ hw => ⟨#[], hw, .nil⟩)
      refine ⟨.map (some w.heap.size), _, φ', ?_, nx, r', .map ⟨w.heap.size, 0, 0, 0, 0⟩ hb⟩
      unfold Instr.makeMap
      cases hr with
      | none => simp
      | some hv =>
        unfold resOk at hc
        split at hc
        · rename_i e; cases e
        · rename_i e; cases e
          obtain rfl := hv.int_inv
          split at hc
          · rename_i k el hu
            simp [run_underlying hu, asInt, asIntOf]
          · cases hc
        · cases hc
    · cases hs
  · rw [if_neg hc] at hs; cases hs

/-! Iterators. -/
def aRange (P : Program) (T : TypeId) (x : Value) (h : AH) : Option (Value × AH) :=
  match (match P.underlying T, x with
    | some .string, .string s => some (AObj.sit s 0)
    | some (.map _ _), .map none => some (.iter none 0 [] 0)
    | some (.map _ _), .map (some b) => (match h.m.get b with
      | some (.map _ cl _) => some (.iter (some b) cl [] cl)
      | _ => none)
    | _, _ => none) with
  | some o => (match h.newObj o with
    | some (b, h') => some (.pointer (some ⟨b, 0, none⟩), h')
    | none => none)
  | none => none
theorem sim_range (r : R w0 φ h w) {T : TypeId} {x x' v : Value} (hs : aRange P T x h = some (v, h')) (hx : VR φ x x') : SimV w0 P φ h w (Instr.range T x') v h' := by
  unfold aRange at hs
  split at hs
  · rename_i o ho
    split at hs
    · rename_i b h1 hn
      cases hs
      have fin : ∀ {y : Obj}, (∀ φ' w', Le φ φ' → w'.heap[w.heap.size]? = some y → OR φ' ⟨w.heap.size, 0, 0, 0, 0⟩ w' o) → (Instr.range T x').run P w = .ok (.pointer (some ⟨w.heap.size, 0, none⟩)) (w.alloc y) →
          SimV w0 P φ h w (Instr.range T x') (.pointer (some ⟨b, 0, none⟩)) h' := by
        intro y hy hrun
        obtain ⟨φ', nx, hb, r'⟩ := r.newObj (x := y) hn hy
        exact ⟨_, _, φ', hrun, nx, r', .ptr (a := ⟨b, 0, none⟩) ⟨w.heap.size, 0, 0, 0, 0⟩ hb rfl⟩
      split at ho
      · rename_i s hu
        cases ho; cases hx
        exact fin (y := .stringIter s 0) (fun φ' w' _ hw => ⟨rfl, hw⟩) (by simp [Instr.range, run_underlying hu])
      · rename_i k el hu
        cases ho; cases hx
        exact fin (y := .mapIter none 0 #[] 0) (fun φ' w' _ hw => ⟨rfl, none, hw, .nilm⟩) (by simp [Instr.range, run_underlying hu])
      · rename_i k el bm hu
        split at ho
        · rename_i es cl ro hm
          cases ho
          obtain ⟨i, hi, rfl⟩ := hx.map_inv
          obtain ⟨arr, h1, _, h2⟩ := r.map (P := P) hi hm
          exact fin (y := .mapIter (some i.c) cl #[] cl) (fun φ' w' le hw => ⟨rfl, some i.c, hw, .map i (le _ _ hi)⟩) (by simp [Instr.range, run_underlying hu, h1])
        · cases ho
      · cases ho
    · cases hs
  · cases hs

/-- The steps that an iterator may take. -/
def nextOuts (h : AH) (b bm : Nat) (since : Nat) (seen : List Nat) (cl : Nat) (es : List (Value × Value × Nat)) : List (Value × AH) :=
  let left := es.filter fun e => !seen.contains e.2.2
  let old := left.filter fun e => decide (e.2.2 < since)
  let new := left.filter fun e => !decide (e.2.2 < since)
  (if old.isEmpty then [(.tuple #[.bool false], h)] else []) ++
    (old ++ new).map fun e => (.tuple #[.bool true, e.1, e.2.1], { h with m := h.m.set b (some (.iter (some bm) since (seen ++ [e.2.2]) cl)) })
def aNext (it : Value) (isString : Bool) (h : AH) : Option (List (Value × AH)) := match it with
  | .pointer (some ⟨b, 0, none⟩) => (match h.m.get b, isString with
    | some (.sit s p), true => if p < s.size then
        (match Utf8.decode s p with
         | (c, width) => some [(.tuple #[.bool true, .int .i64 p, .int .i32 c], { h with m := h.m.set b (some (.sit s (p + width))) })])
      else some [(.tuple #[.bool false], h)]
    | some (.iter none _ _ _), false => some [(.tuple #[.bool false], h)]
    | some (.iter (some bm) since seen st), false => (match h.m.get bm with
      | some (.map es cl _) => if !seen.isEmpty && !es.isEmpty && es.all (fun e => decide (e.2.2 ≥ st)) then none else some (nextOuts h b bm since seen cl es)
      | _ => none)
    | _, _ => none)
  | _ => none
theorem ER.filter {es : List (Value × Value × Nat)} {l : List MapEntry} (he : ER φ es l) (p : Nat → Bool) : ER φ (es.filter fun e => p e.2.2) (l.filter fun e => p e.born) := by
  induction he with
  | nil => exact .nil
  | @cons k v k' v' b l l' hk hv _ ih =>
    simp only [List.filter_cons]
    by_cases hb : p b = true
    · rw [if_pos hb, if_pos hb]; exact .cons hk hv ih
    · rw [if_neg hb, if_neg hb]; exact ih
theorem ER.all {es : List (Value × Value × Nat)} {l : List MapEntry} (he : ER φ es l) (p : Nat → Bool) : (es.all fun e => p e.2.2) = (l.all fun e => p e.born) := by
  induction he with
  | nil => rfl
  | cons _ _ _ ih => simp [List.all_cons, ih]
theorem ER.get' {es : List (Value × Value × Nat)} {l : List MapEntry} (he : ER φ es l) : ∀ {i : Nat} {e' : MapEntry}, l[i]? = some e' → ∃ e, es[i]? = some e ∧ VR φ e.1 e'.key ∧ VR φ e.2.1 e'.val ∧ e'.born = e.2.2 := by
  induction he with
  | nil => intro i e h; simp at h
  | cons hk hv _ ih =>
    intro i e h
    cases i with
    | zero => simp at h; subst h; exact ⟨_, rfl, hk, hv, rfl⟩
    | succ i => simp at h; simpa using ih h
theorem R.iterPut (r : R w0 φ h w) {b : Nat} {i : Im} {m m' : Option Nat} {since st since2 st2 : Nat} {seen seen2 : List Nat} (hi : φ b = some i) (ho : h.m.get b = some (.iter m since seen st)) (hm : VR φ (.map m) (.map m')) :
    R w0 φ { h with m := h.m.set b (some (.iter m since2 seen2 st2)) } (putW w i.c (.mapIter m' since2 ⟨seen2⟩ st2)) ∧ Nx φ φ h { h with m := h.m.set b (some (.iter m since2 seen2 st2)) } :=
  ⟨r.put hi ho rfl (fun _ hw => ⟨(r.dom _ _ _ hi ho).1, m', hw, hm⟩), Nx.put hi (Nat.lt_of_lt_of_le (r.lt _ _ hi).2 r.nx)⟩
theorem sim_next (r : R w0 φ h w) {it it' : Value} {isS : Bool} {ty : TypeId} {l : List (Value × AH)} (hs : aNext it isS h = some l) (hit : VR φ it it') : ∃ v h', (v, h') ∈ l ∧ SimV w0 P φ h w (Instr.next it' isS ty) v h' := by
  unfold aNext at hs
  split at hs
  · rename_i b
    obtain ⟨i, hi, _, rfl⟩ := hit.ptr_inv
    have hi : φ b = some i := hi
    split at hs
    · rename_i s p ho
      obtain ⟨hd, hw⟩ := r.dom _ _ _ hi ho
      have hget : (getObj i.c).run P w = .ok (.stringIter s p) w := by simp [getObj, Sem.run, hw]
      rw [hd]
      split at hs
      · rename_i hp
        cases hs
        refine ⟨_, _, List.mem_singleton.2 rfl, ⟨.tuple #[.bool true, goInt p, .int .i32 (Utf8.decode s p).1], putW w i.c (.stringIter s (p + (Utf8.decode s p).2)), φ, ?_, Nx.put hi (Nat.lt_of_lt_of_le (r.lt _ _ hi).2 r.nx), r.put hi ho rfl (fun w' hw' => ⟨hd, hw'⟩), .tuple' (.cons (.bool _) (.cons (.int _ _) (.cons (.int _ _) .nil)))⟩⟩
        have hset : (setObj i.c (.stringIter s (p + (Utf8.decode s p).2))).run P w = .ok () (putW w i.c (.stringIter s (p + (Utf8.decode s p).2))) := by simp [setObj, Sem.run, hw, putW]
        simp [Instr.next, hget, hp, hset]
      · rename_i hp
        cases hs
        refine ⟨_, _, List.mem_singleton.2 rfl, .here r (v' := .tuple #[.bool false]) ?_ (.tuple' (.cons (.bool _) .nil))⟩
        simp [Instr.next, hget, hp]
    · rename_i since seen st ho
      obtain ⟨hd, m', hw, hm⟩ := r.dom _ _ _ hi ho
      cases hm
      cases hs
      have hget : (getObj i.c).run P w = .ok (.mapIter none since ⟨seen⟩ st) w := by simp [getObj, Sem.run, hw]
      rw [hd]
      refine ⟨_, _, List.mem_singleton.2 rfl, .here r (v' := .tuple #[.bool false]) ?_ (.tuple' (.cons (.bool _) .nil))⟩
      simp [Instr.next, hget]
    · rename_i bm since seen st ho
      obtain ⟨hd, m', hw, hm⟩ := r.dom _ _ _ hi ho
      obtain ⟨im, him, e⟩ := hm.map_inv
      cases e
      have hget : (getObj i.c).run P w = .ok (.mapIter (some im.c) since ⟨seen⟩ st) w := by simp [getObj, Sem.run, hw]
      rw [hd]
      split at hs
      · rename_i es cl ro hom
        obtain ⟨arr, h1, _, h2⟩ := r.map (P := P) him hom
        split at hs
        · cases hs
        · rename_i hns
          cases hs
          have hns' : ¬ (!(⟨seen⟩ : Array Nat).isEmpty && !arr.isEmpty && arr.all (fun e => decide (e.born ≥ st))) = true := by
            intro hh
            apply hns
            have e1 : arr.all (fun e => decide (e.born ≥ st)) = es.all fun e => decide (e.2.2 ≥ st) := by
              rw [h2.all (fun b => decide (b ≥ st)), ← Array.all_toList]
            have e2 : arr.isEmpty = es.isEmpty := by
              have hl : es.length = arr.size := by rw [h2.length]; simp
              rw [Bool.eq_iff_iff, Array.isEmpty_iff_size_eq_zero, List.isEmpty_iff_length_eq_zero, hl]
            have e3 : (⟨seen⟩ : Array Nat).isEmpty = seen.isEmpty := by
              rw [Bool.eq_iff_iff, Array.isEmpty_iff_size_eq_zero, List.isEmpty_iff_length_eq_zero]; rfl
            rw [e1, e2, e3] at hh
            exact hh
          -- the lists of candidates
          let left := es.filter fun e => !seen.contains e.2.2
          let left' := arr.toList.filter fun e => !seen.contains e.born
          have hleft : ER φ left left' := h2.filter (fun b => !seen.contains b)
          let old := left.filter fun e => decide (e.2.2 < since)
          let old' := left'.filter fun e => decide (e.born < since)
          have hold : ER φ old old' := hleft.filter (fun b => decide (b < since))
          let new := left.filter fun e => !decide (e.2.2 < since)
          let new' := left'.filter fun e => !decide (e.born < since)
          have hnew : ER φ new new' := hleft.filter (fun b => !decide (b < since))
          let cand : List (Option MapEntry) := (if old'.isEmpty then [none] else []) ++ (old' ++ new').map some
          have hcand : ((if ((arr.filter fun e => !(⟨seen⟩ : Array Nat).contains e.born).filter (·.born < since)).isEmpty then #[none] else #[]) ++
              ((arr.filter fun e => !(⟨seen⟩ : Array Nat).contains e.born).filter (·.born < since) ++ (arr.filter fun e => !(⟨seen⟩ : Array Nat).contains e.born).filter (·.born ≥ since)).map some : Array (Option MapEntry)) = ⟨cand⟩ := by
            apply Array.ext'
            have fc : ∀ q, (⟨seen⟩ : Array Nat).contains q = seen.contains q := fun q => by simp
            have f1 : (arr.filter fun e => !(⟨seen⟩ : Array Nat).contains e.born).toList = left' := by rw [Array.toList_filter]; simp only [fc]; rfl
            have f2 : ((arr.filter fun e => !(⟨seen⟩ : Array Nat).contains e.born).filter (·.born < since)).toList = old' := by rw [Array.toList_filter, f1]
            have f3 : ((arr.filter fun e => !(⟨seen⟩ : Array Nat).contains e.born).filter (·.born ≥ since)).toList = new' := by
              rw [Array.toList_filter, f1]
              show left'.filter (fun e => decide (e.born ≥ since)) = left'.filter fun e => !decide (e.born < since)
              congr 1; funext e
              by_cases hq : e.born < since <;> simp [hq] <;> omega
            have f4 : ((arr.filter fun e => !(⟨seen⟩ : Array Nat).contains e.born).filter (·.born < since)).isEmpty = old'.isEmpty := by
              rw [Bool.eq_iff_iff, Array.isEmpty_iff_size_eq_zero, List.isEmpty_iff_length_eq_zero, ← f2, Array.length_toList]
            rw [Array.toList_append, Array.toList_map, Array.toList_append, f2, f3, f4]
            show _ = (if old'.isEmpty then [none] else []) ++ (old' ++ new').map some
            cases old'.isEmpty <;> rfl
          have hne : 0 < cand.length := by
            show 0 < ((if old'.isEmpty then [none] else []) ++ (old' ++ new').map some).length
            cases hq : old' with
            | nil => simp
            | cons x l => simp
          have hlen : cand.length = (nextOuts h b bm since seen cl es).length := by
            show ((if old'.isEmpty then [none] else []) ++ (old' ++ new').map some).length = ((if old.isEmpty then [(Value.tuple #[.bool false], h)] else []) ++ (old ++ new).map _).length
            have e1 : old'.isEmpty = old.isEmpty := by
              rw [Bool.eq_iff_iff, List.isEmpty_iff_length_eq_zero, List.isEmpty_iff_length_eq_zero, hold.length]
            rw [e1]
            simp only [List.length_append, List.length_map, hold.length, hnew.length]
            cases old.isEmpty <;> rfl
          -- which one is taken
          have hch : ∃ j w1, (choose (.mapNext cand.length)).run P w = .ok j w1 ∧ j < cand.length ∧ (w1 = w ∨ w1 = w.drew) := by
            rw [run_choose_drew]
            by_cases hf : (Question.mapNext cand.length).forced = true
            · rw [if_pos hf]; exact ⟨0, w, rfl, hne, .inl rfl⟩
            · rw [if_neg hf]; exact ⟨_, w.drew, rfl, Nat.mod_lt _ hne, .inr rfl⟩
          obtain ⟨j, w1, hj1, hj2, hw1⟩ := hch
          have r1 : R w0 φ h w1 := by rcases hw1 with rfl | rfl; exact r; exact r.drew
          have hgw : w1.heap[i.c]? = some (.mapIter (some im.c) since ⟨seen⟩ st) := by rcases hw1 with rfl | rfl <;> exact hw
          have hrun : ∀ (c : Option MapEntry), cand[j]? = some c → (Instr.next (.pointer (some ⟨i.c, 0 + 0, none⟩)) false ty).run P w = (match c with
              | some e => .ok (.tuple #[.bool true, e.key, e.val]) (putW w1 i.c (.mapIter (some im.c) since ⟨seen ++ [e.born]⟩ cl))
              | none => .ok (.tuple #[.bool false]) w1) := by
            intro c hc
            unfold Instr.next
            simp only [Sem.run_bind, hget, Result.andThen_ok, h1]
            rw [if_neg hns']
            simp only [Sem.run_bind]
            rw [hcand]
            simp only [List.size_toArray, hj1, Result.andThen_ok, List.getElem?_toArray, hc]
            cases c with
            | none => rfl
            | some e =>
              have hset : (setObj i.c (.mapIter (some im.c) since ((⟨seen⟩ : Array Nat).push e.born) cl)).run P w1 = .ok () (putW w1 i.c (.mapIter (some im.c) since ⟨seen ++ [e.born]⟩ cl)) := by
                have : ((⟨seen⟩ : Array Nat).push e.born) = ⟨seen ++ [e.born]⟩ := by apply Array.ext'; simp
                rw [this]
                simp [setObj, Sem.run, hgw, putW]
              simp only [Sem.run_bind, hset, Result.andThen_ok, Sem.run_pure]
          by_cases h0 : old'.isEmpty = true ∧ j = 0
          · obtain ⟨ho0, rfl⟩ := h0
            have hc0 : cand[0]? = some none := by
              show ((if old'.isEmpty then [none] else []) ++ (old' ++ new').map some)[0]? = some none
              rw [ho0]; rfl
            have e1 : old.isEmpty = true := by
              rw [List.isEmpty_iff_length_eq_zero, hold.length]; exact List.isEmpty_iff_length_eq_zero.1 ho0
            refine ⟨.tuple #[.bool false], h, ?_, ⟨.tuple #[.bool false], w1, φ, hrun none hc0, .refl φ h, r1, .tuple' (.cons (.bool _) .nil)⟩⟩
            show _ ∈ (if old.isEmpty then [(Value.tuple #[.bool false], h)] else []) ++ (old ++ new).map _
            rw [e1]; simp
          · have hcj : ∃ (q : Nat) (e' : MapEntry), cand[j]? = some (some e') ∧ (old' ++ new')[q]? = some e' := by
              have hcd : cand = (if old'.isEmpty then [none] else []) ++ (old' ++ new').map some := rfl
              cases hq : old'.isEmpty with
              | true =>
                rw [hq] at hcd
                have hj0 : j ≠ 0 := fun e => h0 ⟨hq, e⟩
                have hlt : j - 1 < (old' ++ new').length := by rw [hcd] at hj2; simp only [if_true, List.length_append, List.length_cons, List.length_nil, List.length_map] at hj2 ⊢; omega
                refine ⟨j - 1, (old' ++ new')[j - 1], ?_, List.getElem?_eq_getElem hlt⟩
                rw [hcd, if_pos rfl, List.getElem?_append_right (by simp; omega)]
                simp only [List.length_cons, List.length_nil, Nat.zero_add, List.getElem?_map, List.getElem?_eq_getElem hlt, Option.map_some]
              | false =>
                rw [hq] at hcd
                have hlt : j < (old' ++ new').length := by rw [hcd] at hj2; simpa using hj2
                refine ⟨j, (old' ++ new')[j], ?_, List.getElem?_eq_getElem hlt⟩
                rw [hcd]
                simp only [Bool.false_eq_true, if_false, List.nil_append, List.getElem?_map, List.getElem?_eq_getElem hlt, Option.map_some]
            obtain ⟨q, e', hc, hq⟩ := hcj
            obtain ⟨e, he, hk, hv, hb⟩ := (hold.append hnew).get' hq
            obtain ⟨p1, p2⟩ := r1.iterPut (since2 := since) (seen2 := seen ++ [e.2.2]) (st2 := cl) hi ho (.map im him)
            refine ⟨.tuple #[.bool true, e.1, e.2.1], { h with m := h.m.set b (some (.iter (some bm) since (seen ++ [e.2.2]) cl)) }, ?_, ⟨_, _, φ, hrun (some e') hc, p2, ?_, .tuple' (.cons (.bool _) (.cons hk (.cons hv .nil)))⟩⟩
            · show _ ∈ (if old.isEmpty then [(Value.tuple #[.bool false], h)] else []) ++ (old ++ new).map _
              exact List.mem_append_right _ (List.mem_map.2 ⟨e, List.mem_of_getElem? he, rfl⟩)
            · rw [hb]; exact p1
      · cases hs
    · cases hs
  · cases hs
end
end Go.X
