/- The closed evaluator, part D: operations, all but calls of functions. -/
import Derived.Test.YtdaedcoolcicoaaXC
import Derived.RangeFuncRecord
import Derived.OrdersIn
namespace Go.X
noncomputable section
open Go Go.RowKit
variable {w0 w w' : World} {φ φ' : Phi} {h h' : AH} {P : Program} {n : Nat} {t : T Value}

/-! Operations that make a block, and read nothing. -/
inductive Mk where
  | ptr
  | sl (l c : Nat)
  | mp
def Mk.val : Mk → Nat → Value
  | .ptr, b => .pointer (some ⟨b, 0, none⟩)
  | .sl l c, b => .slice (some ⟨b, 0, none⟩) l c
  | .mp, b => .map (some b)
inductive Al where
  | cells (l : List Value)
  | map
def Al.obj : Al → AObj
  | .cells l => .cells (T.fill l 0 .e) l.length 0 false
  | .map => .map [] 0 false
def Al.im (c : Nat) : Al → Im
  | .cells l => ⟨c, 0, l.length, l.length, 0⟩
  | .map => ⟨c, 0, 0, 0, 0⟩
def Al.ok : Al → Mk → Bool
  | .cells l, .ptr => decide (l.length ≤ T.top)
  | .cells l, .sl _ c => decide (l.length ≤ T.top) && decide (c < open_)
  | .map, .mp => true
  | _, _ => false
def isMapT (P : Program) (T : TypeId) : Bool := match P.underlying T with | some (.map _ _) => true | _ => false
def aAl0 (P : Program) (n : Nat) (t : T Value) : Op → Option (Al × Mk)
  | .alloc el => match zeroOf P el with | some z => some (.cells (cellsL z), .ptr) | none => none
  | .box _ x => match aO n t x with | some v => some (.cells (cellsL v), .ptr) | none => none
  | .buildSlice T len ⟨ps⟩ => match P.underlying T, aPs n t ps with
    | some (.slice el), some parts => (match szOf P el, zeroOf P el with
      | some k, some z => if len * k ≤ 16777216 ∧ (cellsL z).length = k then (match aFill (fun i => some (i * k, k)) (zrep len (cellsL z)) parts with
        | some l => some (.cells l, .sl len len)
        | none => none) else none
      | _, _ => none)
    | _, _ => none
  | .makeSlice T l c => match aO n t l, aO n t c with
    | some (.int _ l), some (.int _ c) => (match P.underlying T with
      | some (.slice el) => (match szOf P el, byOf P el, zeroOf P el with
        | some k, some by_, some z => if 0 ≤ l ∧ l ≤ c ∧ c * (by_ + 1) < 1099511627776 ∧ (cellsL z).length = k then some (.cells (zrep c.toNat (cellsL z)), .sl l.toNat c.toNat) else none
        | _, _, _ => none)
      | _ => none)
    | _, _ => none
  | .makeMap T r => match r with
    | none => some (.map, .mp)
    | some x => (match aO n t x with
      | some (.int _ _) => if isMapT P T then some (.map, .mp) else none
      | _ => none)
  | _ => none
def aAl (P : Program) (n : Nat) (t : T Value) (o : Op) : Option (Al × Mk) := match aAl0 P n t o with
  | some (al, mk) => if al.ok mk then some (al, mk) else none
  | none => none
/-- What stands for the block. -/
def AlR (φ : Phi) : Al → Obj → Prop
  | .cells l, x => ∃ l' el, x = .cells ⟨l'⟩ el (0, 0) ∧ LR φ l l'
  | .map, x => x = .map #[] 0
theorem AlR.or {al : Al} {x : Obj} {c : Nat} {mk : Mk} (hk : al.ok mk = true) (ha : AlR φ al x) (le : Le φ φ') (hw : w.heap[c]? = some x) : OR φ' (al.im c) w al.obj := by
  cases al with
  | cells l =>
    obtain ⟨l', el, rfl, hl⟩ := ha
    have hle : l.length ≤ T.top := by cases mk <;> simp [Al.ok] at hk <;> first | exact hk | exact hk.1
    refine ⟨rfl, rfl, hle, ⟨l'⟩, el, hw, by simp [Al.im, hl.length], by simp [Al.im], fun k hk => ?_⟩
    obtain ⟨v', h1, h2⟩ := hl.get (List.getElem?_eq_getElem hk)
    refine ⟨l[k], v', ?_, by simpa [Al.im] using h1, h2.mono le⟩
    rw [T.get_fill (by omega), if_pos (by omega)]
    simp [hk]
  | map => exact ⟨#[], by rw [show x = .map #[] 0 from ha] at hw; exact hw, .nil⟩
theorem Mk.rel {al : Al} {mk : Mk} {b c : Nat} (hk : al.ok mk = true) (hb : φ b = some (al.im c)) : VR φ (mk.val b) (mk.val c) := by
  cases al with
  | cells l => cases mk with
    | ptr => exact .ptr (a := ⟨b, 0, none⟩) _ hb rfl
    | sl l0 c0 =>
      simp only [Al.ok, Bool.and_eq_true, decide_eq_true_eq] at hk
      exact .slice (a := ⟨b, 0, none⟩) _ hb rfl (by omega)
    | mp => simp [Al.ok] at hk
  | map => cases mk with
    | mp => exact .map _ hb
    | _ => simp [Al.ok] at hk
theorem al0_run {a : Act} (f : FR φ n t a.tmps) {o : Oper} {al : Al} {mk : Mk} (hs : aAl0 P n t o.op = some (al, mk)) :
    ∃ x, AlR φ al x ∧ ∀ w : World, (execOp a.eval o).run P w = .ok (.value (mk.val w.heap.size)) (w.alloc x) := by
  cases hop : o.op with
  | alloc el =>
    rw [hop] at hs
    simp only [aAl0] at hs
    split at hs
    · rename_i z hz
      cases hs
      have hz2 := (rZero hz default).2
      refine ⟨.cells ⟨cellsL z⟩ el (0, 0), ⟨_, _, rfl, (pfv_refl φ hz2).cells⟩, fun w => ?_⟩
      have hz1 := (rZero hz w).1
      simp only [execOp, hop, Instr.alloc, Sem.run_bind, hz1, Result.andThen_ok, newVar, newRow, run_newObj_alloc, Sem.run_pure, cells_eq, Mk.val]
    · cases hs
  | box el x =>
    rw [hop] at hs
    simp only [aAl0] at hs
    split at hs
    · rename_i v hv
      cases hs
      refine ⟨.cells ⟨cellsL (a.eval x)⟩ el (0, 0), ⟨_, _, rfl, (aO_ok f hv).cells⟩, fun w => ?_⟩
      simp only [execOp, hop, Instr.box, newVar, newRow, Sem.run_bind, run_newObj_alloc, Result.andThen_ok, Sem.run_pure, cells_eq, Mk.val]
    · cases hs
  | buildSlice T len parts =>
    obtain ⟨ps⟩ := parts
    rw [hop] at hs
    simp only [aAl0] at hs
    split at hs
    · rename_i el parts hu hps
      split at hs
      · rename_i k z hk hz
        split at hs
        · rename_i hc
          split at hs
          · rename_i l hl
            cases hs
            have hz2 := (rZero hz default).2
            have hpr := aPs_ok f hps
            obtain ⟨out', h1, h2⟩ := fill_ok parts _ hl (zrep_rel (pfv_refl φ hz2).cells len) hpr.two
            refine ⟨.cells ⟨out'⟩ el (0, 0), ⟨_, _, rfl, h2⟩, fun w => ?_⟩
            have hz1 := (rZero hz w).1
            have hmap : ((⟨ps⟩ : Array (Nat × Operand)).map fun (i, x) => (i, a.eval x)) = ⟨ps.map fun p => (p.1, a.eval p.2)⟩ := by
              apply Array.ext'; simp
            simp only [execOp, hop, hmap]
            have hrun : (Instr.buildSlice T len ⟨ps.map fun p => (p.1, a.eval p.2)⟩).run P w = .ok (.slice (some ⟨w.heap.size, 0, none⟩) len len) (w.alloc (.cells ⟨out'⟩ el (0, 0))) := by
              unfold Instr.buildSlice
              simp only [Sem.run_bind, run_underlying hu, Result.andThen_ok, rSz hk]
              rw [if_neg (by omega)]
              by_cases hn : len * k = 0
              · have ez : zrep len (cellsL z) = [] := List.eq_nil_of_length_eq_zero (by rw [zrep_len, hc.2]; exact hn)
                have er : (Array.range (len * k)).map (fun i => (#[] : Array Value)[i % (#[] : Array Value).size]!) = ⟨[]⟩ := by
                  rw [hn]
                  have : Array.range 0 = (#[] : Array Nat) := Array.eq_empty_of_size_eq_zero (by simp)
                  rw [this]; simp
                rw [ez] at h1
                rw [if_pos hn]
                simp only [Sem.run_pure, Sem.run_bind, Result.andThen_ok, er, h1, newRow, run_newObj_alloc]
              · rw [if_neg hn]
                simp only [Sem.run_pure, Sem.run_bind, Result.andThen_ok, hz1]
                rw [zarr (by rw [hc.2]), h1]
                simp only [Sem.run_pure, Sem.run_bind, Result.andThen_ok, newRow, run_newObj_alloc]
            rw [Sem.run_bind, hrun]; rfl
          · cases hs
        · cases hs
      · cases hs
    · cases hs
  | makeSlice T lx cx =>
    rw [hop] at hs
    simp only [aAl0] at hs
    split at hs
    · rename_i k1 l k2 c hl hc
      have el := (aO_ok f hl).int_inv
      have ec := (aO_ok f hc).int_inv
      split at hs
      · rename_i el' hu
        split at hs
        · rename_i k by_ z hk hb hz
          split at hs
          · rename_i hcond
            cases hs
            obtain ⟨h1, h2, h3, h4⟩ := hcond
            have hz2 := (rZero hz default).2
            obtain ⟨i, hi, hisz⟩ := rI' hk
            have hib : i.bytes = by_ := by unfold byOf at hb; rw [hi] at hb; simpa using hb
            have hcc : c < 1099511627776 := by
              have : c * 1 ≤ c * (by_ + 1 : Int) := Int.mul_le_mul_of_nonneg_left (by omega) (by omega)
              omega
            have hcb : (by_ : Int) * c ≤ 281474976710656 := by
              have : c * (by_ + 1 : Int) = by_ * c + c := by rw [Int.mul_add, Int.mul_comm, Int.mul_one]
              omega
            have hroom : ¬ (140737488355328 < c.toNat * by_) := by
              have e : ((c.toNat * by_ : Nat) : Int) = c * by_ := by push_cast; rw [Int.toNat_of_nonneg (by omega)]
              have : c * (by_ + 1 : Int) = c * by_ + c := by rw [Int.mul_add, Int.mul_one]
              omega
            refine ⟨.cells ⟨zrep c.toNat (cellsL z)⟩ el' (0, 0), ⟨_, _, rfl, zrep_rel (pfv_refl φ hz2).cells _⟩, fun w => ?_⟩
            have hz1 := (rZero hz w).1
            have hrun : (Instr.makeSlice T (.int k1 l) (.int k2 c)).run P w = .ok (.slice (some ⟨w.heap.size, 0, none⟩) l.toNat c.toNat) (w.alloc (.cells ⟨zrep c.toNat (cellsL z)⟩ el' (0, 0))) := by
              unfold Instr.makeSlice
              simp only [Sem.run_bind, run_underlying hu, Result.andThen_ok, asInt, asIntOf, Sem.run_pure, rI hi, wrap64 (show 0 ≤ c by omega) hcc, wrap64 h1 (show l < 1099511627776 by omega)]
              have t1 : (decide (c < 0) || decide ((i.bytes : Int) * c > 2 ^ 48)) = false := by
                rw [hib]; simp only [Bool.or_eq_false_iff, decide_eq_false_iff_not]; omega
              simp only [t1, Bool.false_or]
              rw [if_neg (by simp; omega)]
              simp only [askRoom, roomBytes, hib]
              rw [if_neg (by omega)]
              simp only [Sem.run_pure, Sem.run_bind, Result.andThen_ok, rSz hk]
              by_cases hn : c.toNat * k = 0
              · have ez : zrep c.toNat (cellsL z) = [] := List.eq_nil_of_length_eq_zero (by rw [zrep_len, h4]; exact hn)
                rw [if_pos hn]
                have er : Array.range 0 = (#[] : Array Nat) := Array.eq_empty_of_size_eq_zero (by simp)
                simp [newRow, ez, hn, er]
              · rw [if_neg hn]
                simp only [Sem.run_bind, hz1, Sem.run_pure, Result.andThen_ok, newRow, run_newObj_alloc]
                rw [zarr (by rw [h4])]
            simp only [execOp, hop, el, ec]
            rw [Sem.run_bind, hrun]; rfl
          · cases hs
        · cases hs
      · cases hs
    · cases hs
  | makeMap T rr =>
    rw [hop] at hs
    simp only [aAl0] at hs
    cases rr with
    | none =>
      cases hs
      refine ⟨.map #[] 0, rfl, fun w => ?_⟩
      simp [execOp, hop, Instr.makeMap, Mk.val]
    | some x =>
      dsimp only at hs
      split at hs
      · rename_i kk q hx
        split at hs
        · rename_i hm
          cases hs
          have ex := (aO_ok f hx).int_inv
          unfold isMapT at hm
          split at hm
          · rename_i k el hu
            refine ⟨.map #[] 0, rfl, fun w => ?_⟩
            simp [execOp, hop, Instr.makeMap, Mk.val, ex, run_underlying hu, asInt, asIntOf]
          · cases hm
        · cases hs
      · cases hs
  | _ => rw [hop] at hs; simp [aAl0] at hs
theorem al_run {a : Act} (f : FR φ n t a.tmps) {o : Oper} {al : Al} {mk : Mk} (hs : aAl P n t o.op = some (al, mk)) :
    al.ok mk = true ∧ ∃ x, AlR φ al x ∧ ∀ w : World, (execOp a.eval o).run P w = .ok (.value (mk.val w.heap.size)) (w.alloc x) := by
  unfold aAl at hs
  split at hs
  · rename_i al0 mk0 h0
    split at hs
    · rename_i hk; cases hs; exact ⟨hk, al0_run f h0⟩
    · cases hs
  · cases hs
def AH.newAl (h : AH) (al : Al) : Option (Nat × AH) := if h.next < T.top then some (h.next, ⟨h.m.set h.next (some al.obj), h.next + 1⟩) else none
def aNew (x : Option (Al × Mk)) (h : AH) : Outs := match x with
  | some (al, mk) => (match h.newAl al with
    | some (b, h') => some [(.val (mk.val b), h')]
    | none => none)
  | none => none
end
end Go.X
