/- The closed evaluator, part B: equality, strings, and what an operation does that calls nothing. -/
import Derived.Test.YtdaedcoolcicoaaXA
namespace Go.X
noncomputable section
open Go Go.RowKit
variable {w0 w w' : World} {φ φ' : Phi} {h h' : AH} {P : Program} {n : Nat} {t : T Value}

/-! Equality of addresses. -/
theorem cell_at {a : Addr} {v : Value} (hv : h.cell a = some v) : ∃ c nn op ro, h.m.get a.block = some (.cells c nn op ro) ∧ a.off < nn := by
  unfold AH.cell at hv
  split at hv
  · rename_i c nn op ro ho
    split at hv
    · exact ⟨c, nn, op, ro, ho, ‹_›⟩
    · cases hv
  · cases hv
theorem run_sameAddr (r : R w0 φ h w) {a b : Addr} {i j : Im} {va vb : Value} (hi : φ a.block = some i) (hj : φ b.block = some j) (ha : h.cell a = some va) (hb : h.cell b = some vb) :
    (sameAddr ⟨i.c, a.off + i.d, none⟩ ⟨j.c, b.off + j.d, none⟩).run P w = .ok (decide (a.block = b.block ∧ a.off = b.off)) w := by
  obtain ⟨ca, na, opa, roa, hga, hla⟩ := cell_at ha
  obtain ⟨cb, nb, opb, rob, hgb, hlb⟩ := cell_at hb
  unfold sameAddr
  by_cases e : a.block = b.block
  · rw [e] at hi
    rw [hi] at hj; cases hj
    have : ((i.c == i.c) : Bool) = true := by simp
    rw [if_pos this]
    simp only [Sem.run_pure]
    congr 1
    by_cases e2 : a.off = b.off
    · simp [e, e2]
    · have : ¬ (a.off + i.d = b.off + i.d) := by omega
      simp [e2]
  · have hne : i.c ≠ j.c := fun hc => e (r.inj _ _ _ _ _ _ hi hj hga hgb hc)
    obtain ⟨_, _, _, arr, el, hw, hs, hd, _⟩ := r.dom _ _ _ hi hga
    obtain ⟨_, _, _, arr2, el2, hw2, hs2, hd2, _⟩ := r.dom _ _ _ hj hgb
    rw [if_neg (by simpa using hne)]
    have e3 : decide (a.block = b.block ∧ a.off = b.off) = false := by simp [e]
    rw [e3]
    simp [noView, viewAt, mayBeOne, stringish, frozen, shape, Sem.run, World.frozen?, World.shape?, hw, hw2]
def aEqV (P : Program) (T : TypeId) (x y : Value) (h : AH) : Option Bool := match P.underlying T, x, y with
  | some (.pointer _), .pointer none, .pointer b => some b.isNone
  | some (.pointer _), .pointer (some _), .pointer none => some false
  | some (.pointer el), .pointer (some a), .pointer (some b) => (match szOf P el, h.cell a, h.cell b with
    | some (_ + 1), some _, some _ => some (decide (a.block = b.block ∧ a.off = b.off))
    | _, _, _ => none)
  | some (.interface _), .nilIface, .iface _ _ => some false
  | some (.interface _), .iface _ _, .nilIface => some false
  | some (.slice _), .slice none _ _, .slice b _ _ => some b.isNone
  | some (.slice _), .slice (some _) _ _, .slice none _ _ => some false
  | some (.map _ _), .map none, .map b => some b.isNone
  | some (.map _ _), .map (some _), .map none => some false
  | some (.func _ _ _), .nilFunc, .func _ _ _ => some false
  | some (.func _ _ _), .func _ _ _, .nilFunc => some false
  | _, _, _ => none
theorem eqIn_ok (r : R w0 φ h w) {T : TypeId} {x y x' y' : Value} {b : Bool} (hs : aEqV P T x y h = some b) (hx : VR φ x x') (hy : VR φ y y') (d : Nat) : (Op.equalIn (d + 1) T x' y').run P w = .ok b w := by
  unfold aEqV at hs
  split at hs
  · rename_i el b' hu
    cases hs; cases hx
    cases hy <;> simp only [Op.equalIn, Sem.run_bind, run_underlying hu, Result.andThen_ok] <;> rfl
  · rename_i el a hu
    cases hs
    obtain ⟨i, hi, _, rfl⟩ := hx.ptr_inv
    cases hy
    simp only [Op.equalIn, Sem.run_bind, run_underlying hu, Result.andThen_ok]; rfl
  · rename_i el a b0 hu
    split at hs
    · rename_i k va vb hk ha hb
      cases hs
      obtain ⟨i, hi, _, rfl⟩ := hx.ptr_inv
      obtain ⟨j, hj, _, rfl⟩ := hy.ptr_inv
      have := run_sameAddr (P := P) r hi hj ha hb
      simp only [Op.equalIn, Sem.run_bind, run_underlying hu, rSz hk, Result.andThen_ok]
      rw [if_pos (by omega)]; exact this
    · cases hs
  · rename_i ms t0 v0 hu
    cases hs; cases hx; cases hy
    simp only [Op.equalIn, Sem.run_bind, run_underlying hu, Result.andThen_ok]; rfl
  · rename_i ms t0 v0 hu
    cases hs; cases hx; cases hy
    simp only [Op.equalIn, Sem.run_bind, run_underlying hu, Result.andThen_ok]; rfl
  · rename_i el l c b0 l2 c2 hu
    cases hs; cases hx
    cases hy <;> simp only [Op.equalIn, Sem.run_bind, run_underlying hu, Result.andThen_ok] <;> rfl
  · rename_i el a l c l2 c2 hu
    cases hs
    cases hy
    cases hx <;> simp only [Op.equalIn, Sem.run_bind, run_underlying hu, Result.andThen_ok] <;> rfl
  · rename_i k el b0 hu
    cases hs; cases hx
    cases hy <;> simp only [Op.equalIn, Sem.run_bind, run_underlying hu, Result.andThen_ok] <;> rfl
  · rename_i k el b0 hu
    cases hs
    cases hy
    obtain ⟨i, _, rfl⟩ := hx.map_inv
    simp only [Op.equalIn, Sem.run_bind, run_underlying hu, Result.andThen_ok]; rfl
  · rename_i a1 a2 a3 f a b0 hu
    cases hs; cases hx; cases hy
    simp only [Op.equalIn, Sem.run_bind, run_underlying hu, Result.andThen_ok]; rfl
  · rename_i a1 a2 a3 f a b0 hu
    cases hs; cases hx; cases hy
    simp only [Op.equalIn, Sem.run_bind, run_underlying hu, Result.andThen_ok]; rfl
  · cases hs
/-- Shapes of values that ==, given so, compares by 'equal' alone. -/
def plainPair : Value → Value → Bool
  | .pointer _, .pointer _ | .nilIface, .iface _ _ | .iface _ _, .nilIface | .slice _ _ _, .slice _ _ _ | .map _, .map _ | .nilFunc, .func _ _ _ | .func _ _ _, .nilFunc => true
  | _, _ => false
theorem eqV_pair {T : TypeId} {x y : Value} {b : Bool} (hs : aEqV P T x y h = some b) : plainPair x y = true := by
  unfold aEqV at hs
  split at hs <;> first | rfl | cases hs
theorem VR.pair {x y x' y' : Value} (hx : VR φ x x') (hy : VR φ y y') (hp : plainPair x y = true) : plainPair x' y' = true := by
  cases hx <;> cases hy <;> first | rfl | (simp [plainPair] at hp)
theorem pair_guard {op : BinOp} {T : TypeId} {xo yo : Operand} {x y : Value} (hp : plainPair x y = true) (w : World) : (eqGuard op T xo yo x y).run P w = .ok () w := by
  unfold eqGuard
  cases op <;> first | rfl | (cases x <;> cases y <;> first | rfl | (simp [plainPair] at hp))
theorem pair_eql {T : TypeId} {x y : Value} (hp : plainPair x y = true) : binOp .eql T x y = (do pure (.bool (← Op.equal T x y))) := by
  cases x <;> cases y <;> first | rfl | (simp [plainPair] at hp)
theorem pair_neq {T : TypeId} {x y : Value} (hp : plainPair x y = true) : binOp .neq T x y = (do pure (.bool (!(← Op.equal T x y)))) := by
  cases x <;> cases y <;> first | rfl | (simp [plainPair] at hp)
def aBinV (P : Program) (op : BinOp) (T : TypeId) (x y : Value) (h : AH) : Option Value := match op with
  | .eql => (match aEqV P T x y h with | some b => some (.bool b) | none => none)
  | .neq => (match aEqV P T x y h with | some b => some (.bool (!b)) | none => none)
  | _ => none
theorem sim_binV (r : R w0 φ h w) {op : BinOp} {T : TypeId} {xo yo : Operand} {x y x' y' v : Value} (hs : aBinV P op T x y h = some v) (hx : VR φ x x') (hy : VR φ y y') :
    SimV w0 P φ h w (do eqGuard op T xo yo x' y'; binOp op T x' y') v h := by
  unfold aBinV at hs
  split at hs
  · split at hs
    · rename_i b hb
      cases hs
      have hp := hx.pair hy (eqV_pair hb)
      refine .here r (v' := .bool b) ?_ (.bool b)
      have := eqIn_ok r hb hx hy 9999
      rw [Sem.run_bind, pair_guard hp, Result.andThen_ok, pair_eql hp, Sem.run_bind]
      unfold Op.equal
      rw [show Op.maxDepth = 9999 + 1 from rfl, this, Result.andThen_ok]
      rfl
    · cases hs
  · split at hs
    · rename_i b hb
      cases hs
      have hp := hx.pair hy (eqV_pair hb)
      refine .here r (v' := .bool (!b)) ?_ (.bool _)
      have := eqIn_ok r hb hx hy 9999
      rw [Sem.run_bind, pair_guard hp, Result.andThen_ok, pair_neq hp, Sem.run_bind]
      unfold Op.equal
      rw [show Op.maxDepth = 9999 + 1 from rfl, this, Result.andThen_ok]
      rfl
    · cases hs
  · cases hs

/-! Strings. -/
def aStr (op : BinOp) (a b : ByteArray) : Option Value := match op with
  | .eql => some (.bool (a.data.toList == b.data.toList))
  | .neq => some (.bool (!(a.data.toList == b.data.toList)))
  | .add => if a.size + b.size < 1099511627776 then some (.string ⟨⟨a.data.toList ++ b.data.toList⟩⟩) else none
  | .lss => some (.bool (Op.bytesLess a.data.toList b.data.toList))
  | .geq => some (.bool (!Op.bytesLess a.data.toList b.data.toList))
  | .leq => some (.bool (Op.bytesLess a.data.toList b.data.toList || a.data.toList == b.data.toList))
  | .gtr => some (.bool (!(Op.bytesLess a.data.toList b.data.toList || a.data.toList == b.data.toList)))
  | _ => none
theorem sim_str (r : R w0 φ h w) {op : BinOp} {T : TypeId} {xo yo : Operand} {a b : ByteArray} {v : Value} (hs : aStr op a b = some v) :
    SimV w0 P φ h w (do eqGuard op T xo yo (.string a) (.string b); binOp op T (.string a) (.string b)) v h := by
  have hg : (eqGuard op T xo yo (.string a) (.string b)).run P w = .ok () w := by unfold eqGuard; cases op <;> rfl
  have e1 := ByteArray.toList_eq a
  have e2 := ByteArray.toList_eq b
  unfold aStr at hs
  split at hs
  all_goals first | (cases hs; done) | skip
  · cases hs
    refine .here r (v' := .bool _) ?_ (.bool _)
    rw [Sem.run_bind, hg, Result.andThen_ok]
    simp [binOp, Op.stringOp, e1, e2]
  · cases hs
    refine .here r (v' := .bool _) ?_ (.bool _)
    rw [Sem.run_bind, hg, Result.andThen_ok]
    simp [binOp, Op.stringOp, e1, e2]
  · split at hs
    · rename_i hc
      cases hs
      refine .here r (v' := .string ⟨⟨a.data.toList ++ b.data.toList⟩⟩) ?_ (.string _)
      rw [Sem.run_bind, hg, Result.andThen_ok]
      show (Op.stringOp .add a b).run P w = _
      rw [run_string_add_sum w a b (by omega)]
      have e3 : a ++ b = ⟨⟨a.data.toList ++ b.data.toList⟩⟩ := by
        apply ByteArray.ext
        rw [ByteArray.data_append]
        apply Array.ext'
        simp
      rw [e3]
    · cases hs
  · cases hs
    refine .here r (v' := .bool _) ?_ (.bool _)
    rw [Sem.run_bind, hg, Result.andThen_ok]
    simp [binOp, Op.stringOp, e1, e2]
  · cases hs
    refine .here r (v' := .bool _) ?_ (.bool _)
    rw [Sem.run_bind, hg, Result.andThen_ok]
    simp [binOp, Op.stringOp, e1, e2]
  · cases hs
    refine .here r (v' := .bool _) ?_ (.bool _)
    rw [Sem.run_bind, hg, Result.andThen_ok]
    simp [binOp, Op.stringOp, e1, e2]
  · cases hs
    refine .here r (v' := .bool _) ?_ (.bool _)
    rw [Sem.run_bind, hg, Result.andThen_ok]
    simp [binOp, Op.stringOp, e1, e2]
def intsOf : List Value → Option (List Int)
  | [] => some []
  | .int .u8 n :: l => (match intsOf l with | some m => some (n :: m) | none => none)
  | _ => none
theorem intsOf_ok {l l' : List Value} (hl : LR φ l l') : ∀ {m : List Int}, intsOf l = some m → l' = m.map (Value.int .u8) := by
  induction hl with
  | nil => intro m h; simp only [intsOf] at h; cases h; rfl
  | cons hv _ ih =>
    intro m h
    unfold intsOf at h
    split at h
    · rename_i e; cases e
    · rename_i n l0 e
      cases e
      split at h
      · rename_i m' hm
        cases h
        obtain rfl := hv.int_inv
        rw [ih hm]; rfl
      · cases h
    · cases h
def aB2S (P : Program) (sT dT : TypeId) (x : Value) (h : AH) : Option Value := match P.underlying sT, P.underlying dT, x with
  | some (.slice el), some .string, .slice (some a) l c => (match P.underlying el with
    | some (.int .u8) => (match (if l = 0 then some [] else if c = 0 then none else h.cells a 0 l) with
      | some cs => (match intsOf cs with
        | some ns => some (.string ⟨⟨ns.map fun n => UInt8.ofNat n.toNat⟩⟩)
        | none => none)
      | none => none)
    | _ => none)
  | _, _, _ => none
theorem sim_b2s (r : R w0 φ h w) {sT dT : TypeId} {x x' v : Value} (hs : aB2S P sT dT x h = some v) (hx : VR φ x x') : SimV w0 P φ h w (convert sT dT x') v h := by
  unfold aB2S at hs
  split at hs
  · rename_i el a l c hu hd
    split at hs
    · rename_i he
      split at hs
      · rename_i cs hcs
        split at hs
        · rename_i ns hns
          cases hs
          have : ∃ a' c', x' = .slice (some a') l c' ∧ (loadCells a' l).run P w = .ok (ns.map (Value.int .u8)).toArray w := by
            by_cases hl : l = 0
            · subst hl
              rw [if_pos rfl] at hcs
              cases hcs
              simp only [intsOf] at hns
              cases hns
              have : ∃ a' c', x' = .slice (some a') 0 c' := by cases hx <;> exact ⟨_, _, rfl⟩
              obtain ⟨a', c', rfl⟩ := this
              exact ⟨a', c', rfl, by simp [loadCells, loadCellsFrom]⟩
            · rw [if_neg hl] at hcs
              split at hcs
              · cases hcs
              · rename_i hc
                obtain ⟨i, c', hi, hsp, rfl⟩ := hx.sl_some hc hl
                obtain ⟨l', h1, h2, h3⟩ := r.cells hi _ _ hcs
                refine ⟨_, c', rfl, ?_⟩
                rw [run_loadCells_at h1 (fun j v hj => by have := h2 j v hj; rwa [Nat.zero_add] at this), intsOf_ok h3 hns]
          obtain ⟨a', c', rfl, hld⟩ := this
          refine .here r (v' := .string ⟨⟨ns.map fun n => UInt8.ofNat n.toNat⟩⟩) ?_ (.string _)
          rw [run_convert_bytes_string w sT dT el _ _ _ hu he hd, run_bytesToString w a' l c' ns hld]
          congr 2
          have := foldl_push_bytes ns ByteArray.empty
          rw [this]
          apply ByteArray.ext
          apply Array.ext'
          simp
        · cases hs
      · cases hs
    · cases hs
  · cases hs
end
end Go.X
