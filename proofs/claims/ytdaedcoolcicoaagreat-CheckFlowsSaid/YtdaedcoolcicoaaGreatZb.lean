/- Parts of the closed evaluator. -/
import Derived.Test.YtdaedcoolcicoaaGreatZa
import Derived.RangeFuncRecord
import Derived.OrdersIn
namespace Go.X
noncomputable section
open Go Go.RowKit
variable {w0 w w' : World} {φ φ' : Phi} {h h' : AH} {P : Program}

/-! Parts of structs. -/
def aPart (P : Program) (T : TypeId) (l : List Value) (off : Nat) : Option Value := match P.underlying T with
  | some d => if isAg d then (match szOf P T with
      | some k => some (.agg ⟨(l.take (off + k)).drop off⟩)
      | none => none) else l[off]?
  | none => none
theorem part_ok {T : TypeId} {l l' : List Value} {off : Nat} {v : Value} (hs : aPart P T l off = some v) (hl : LR φ l l') (w : World) : ∃ v', (part T ⟨l'⟩ off).run P w = .ok v' w ∧ VR φ v v' := by
  unfold aPart at hs
  split at hs
  · rename_i d hd
    unfold part
    simp only [Sem.run_bind, rA hd, Result.andThen_ok]
    split at hs
    · rename_i hag
      split at hs
      · rename_i k hk
        cases hs
        rw [hag]
        simp only [if_true, Sem.run_bind, rSz hk, Result.andThen_ok, Sem.run_pure]
        refine ⟨_, rfl, ?_⟩
        have e : (⟨l'⟩ : Array Value).extract off (off + k) = ⟨(l'.take (off + k)).drop off⟩ := by
          apply Array.ext'
          simp [List.drop_take]
        rw [e]
        exact .agg' ((hl.take _).drop _)
      · cases hs
    · rename_i hag
      simp only [Bool.not_eq_true] at hag
      rw [hag]
      obtain ⟨v', h1, h2⟩ := hl.get hs
      refine ⟨v', ?_, h2⟩
      simp [h1]
  · cases hs
theorem VR.agg_inv {l : List Value} {v : Value} (hv : VR φ (.agg ⟨l⟩) v) : ∃ l', v = .agg ⟨l'⟩ ∧ LR φ l l' := by
  cases hv with
  | agg ha h => exact ⟨_, rfl, LR.of ha h⟩
theorem VR.tuple_inv {l : List Value} {v : Value} (hv : VR φ (.tuple ⟨l⟩) v) : ∃ l', v = .tuple ⟨l'⟩ ∧ LR φ l l' := by
  cases hv with
  | tuple ha h => exact ⟨_, rfl, LR.of ha h⟩
def aFieldV (P : Program) (T : TypeId) (x : Value) (f : Nat) : Option Value := match P.underlying T, x with
  | some (.struct fs), .agg ⟨l⟩ => (match fs[f]? with
    | some fd => aPart P fd.type l fd.offset
    | none => none)
  | _, _ => none
theorem sim_fieldV (r : R w0 φ h w) {T : TypeId} {x x' v : Value} {f : Nat} (hs : aFieldV P T x f = some v) (hx : VR φ x x') : SimV w0 P φ h w (Instr.field T x' f) v h := by
  unfold aFieldV at hs
  split at hs
  · rename_i fs l hu
    split at hs
    · rename_i fd hf
      obtain ⟨l', rfl, hl⟩ := hx.agg_inv
      obtain ⟨v', h1, h2⟩ := part_ok hs hl w
      refine .here r ?_ h2
      simp only [Instr.field, Sem.run_bind, run_underlying hu, Result.andThen_ok, hf, asAgg, Sem.run_pure, h1]
    · cases hs
  · cases hs
def aIndexV (P : Program) (T : TypeId) (x i : Value) : Option Value := match P.underlying T, x, i with
  | some (.array n el), .agg ⟨l⟩, .int _ j => if 0 ≤ j ∧ j < n then (match szOf P el with
      | some k => aPart P el l (j.toNat * k)
      | none => none) else none
  | some .string, .string s, .int _ j => if 0 ≤ j then (match s.data.toList[j.toNat]? with
      | some b => some (.int .u8 b.toNat)
      | none => none) else none
  | _, _, _ => none
theorem sim_indexV (r : R w0 φ h w) {T : TypeId} {x x' i i' v : Value} (hs : aIndexV P T x i = some v) (hx : VR φ x x') (hi : VR φ i i') : SimV w0 P φ h w (Instr.index T x' i') v h := by
  unfold aIndexV at hs
  split at hs
  · rename_i n el l k j hu
    split at hs
    · rename_i hc
      split at hs
      · rename_i k hk
        obtain ⟨l', rfl, hl⟩ := hx.agg_inv
        obtain rfl := hi.int_inv
        obtain ⟨v', h1, h2⟩ := part_ok hs hl w
        refine .here r ?_ h2
        simp only [Instr.index, asIntOf, Sem.run_pure, Sem.run_bind, run_underlying hu, Result.andThen_ok]
        rw [if_pos hc]
        simp only [Sem.run_bind, rSz hk, Result.andThen_ok, h1]
      · cases hs
    · cases hs
  · rename_i s k j hu
    split at hs
    · rename_i hc
      split at hs
      · rename_i b hb
        cases hs
        cases hx
        obtain rfl := hi.int_inv
        refine .here r (v' := .int .u8 b.toNat) ?_ (.int _ _)
        have hb' : s[j.toNat]? = some b := by
          have hlt := (List.getElem?_eq_some_iff.1 hb).1
          have hlt2 : j.toNat < s.size := by rw [Array.length_toList] at hlt; exact hlt
          rw [getElem?_pos s j.toNat hlt2]
          rw [List.getElem?_eq_getElem hlt] at hb
          have : s[j.toNat] = s.data[j.toNat]'hlt2 := rfl
          rw [this]; simpa using hb
        simp only [Instr.index, asIntOf, Sem.run_pure, Sem.run_bind, run_underlying hu, Result.andThen_ok]
        rw [if_pos hc, hb']
        rfl
      · cases hs
    · cases hs
  · cases hs

/-! Structs that are built. -/
def splice (l : List Value) (off : Nat) (v : List Value) : List Value := l.take off ++ v ++ l.drop (off + v.length)
theorem LR.splice {l l' v v' : List Value} (hl : LR φ l l') (hv : LR φ v v') (off : Nat) : LR φ (X.splice l off v) (X.splice l' off v') := by
  unfold X.splice
  rw [← hv.length]
  exact ((hl.take _).append hv).append (hl.drop _)
def aFill (place : Nat → Option (Nat × Nat)) (cells : List Value) : List (Nat × Value) → Option (List Value)
  | [] => some cells
  | (i, v) :: rest => match place i with
    | none => none
    | some (off, size) => if (cellsL v).length ≠ size ∨ off + (cellsL v).length > cells.length then none else aFill place (splice cells off (cellsL v)) rest
theorem foldl_splice : ∀ (vs : List Value) (cells : List Value) (off q : Nat), off + q + vs.length ≤ cells.length →
    (vs.zipIdx q).foldl (fun (cs : Array Value) (p : Value × Nat) => cs.setIfInBounds (off + p.2) p.1) ⟨cells⟩ = ⟨splice cells (off + q) vs⟩
  | [], cells, off, q, h => by simp [splice]
  | v :: vs, cells, off, q, h => by
    simp only [List.length_cons] at h
    simp only [List.zipIdx_cons, List.foldl_cons]
    have e : (⟨cells⟩ : Array Value).setIfInBounds (off + q) v = ⟨cells.set (off + q) v⟩ := by apply Array.ext'; simp
    rw [e, foldl_splice vs _ off (q + 1) (by simp; omega)]
    congr 1
    unfold splice
    apply List.ext_getElem?
    intro j
    simp only [List.length_cons]
    have hl : off + q < cells.length := by omega
    by_cases h1 : j < off + q
    · rw [List.getElem?_append_left (by simp; omega), List.getElem?_append_left (by simp; omega), List.getElem?_take, if_pos (by omega), List.getElem?_set_ne (by omega),
        List.getElem?_append_left (by simp; omega), List.getElem?_append_left (by simp; omega), List.getElem?_take, if_pos h1]
    · by_cases h2 : j = off + q
      · subst h2
        rw [List.getElem?_append_left (by simp; omega), List.getElem?_append_left (by simp; omega), List.getElem?_take, if_pos (by omega), List.getElem?_set_self (by omega)]
        rw [List.getElem?_append_left (by simp; omega), List.getElem?_append_right (by simp; omega)]
        simp [Nat.min_eq_left (Nat.le_of_lt hl)]
      · by_cases h3 : j < off + q + 1 + vs.length
        · rw [List.getElem?_append_left (by simp; omega), List.getElem?_append_right (by simp; omega), List.getElem?_append_left (by simp; omega), List.getElem?_append_right (by simp; omega)]
          simp only [List.length_take, List.length_set]
          rw [show min (off + (q + 1)) cells.length = off + q + 1 by omega, show min (off + q) cells.length = off + q by omega]
          rw [show j - (off + q) = (j - (off + q + 1)) + 1 by omega]
          simp
        · rw [List.getElem?_append_right (by simp; omega), List.getElem?_append_right (by simp; omega)]
          simp only [List.length_append, List.length_take, List.length_set, List.length_cons, List.getElem?_drop]
          rw [List.getElem?_set_ne (by omega)]
          congr 1
          omega
theorem fill_ok {place : Nat → Option (Nat × Nat)} : ∀ (parts parts' : List (Nat × Value)) {cells cells' out : List Value}, aFill place cells parts = some out → LR φ cells cells' →
    (parts.length = parts'.length ∧ ∀ (k : Nat) (p p' : Nat × Value), parts[k]? = some p → parts'[k]? = some p' → p.1 = p'.1 ∧ VR φ p.2 p'.2) →
    ∃ out', Instr.fill place ⟨cells'⟩ parts' = some ⟨out'⟩ ∧ LR φ out out'
  | [], parts', cells, cells', out, hs, hc, hp => by
    have : parts' = [] := List.eq_nil_of_length_eq_zero (by simpa using hp.1.symm)
    subst this
    simp only [aFill] at hs
    cases hs
    exact ⟨cells', rfl, hc⟩
  | (i, v) :: rest, [], cells, cells', out, hs, hc, hp => by simp at hp
  | (i, v) :: rest, (i', v') :: rest', cells, cells', out, hs, hc, hp => by
    have h0 := hp.2 0 (i, v) (i', v') rfl rfl
    obtain ⟨rfl, hv⟩ := h0
    simp only [aFill] at hs
    simp only [Instr.fill]
    cases hpl : place i with
    | none => rw [hpl] at hs; cases hs
    | some p =>
      obtain ⟨off, size⟩ := p
      rw [hpl] at hs
      dsimp only at hs ⊢
      split at hs
      · cases hs
      · rename_i hcond
        have hsz : v'.cells.size = (cellsL v).length := by rw [cells_eq, hv.cells.length]; rfl
        have hcl : (⟨cells'⟩ : Array Value).size = cells.length := by rw [hc.length]; rfl
        rw [if_neg (by rw [hsz, hcl]; simpa only [Bool.or_eq_true, decide_eq_true_eq] using hcond)]
        have hfold : v'.cells.zipIdx.foldl (fun cs (c, j) => cs.setIfInBounds (off + j) c) (⟨cells'⟩ : Array Value) = ⟨splice cells' off (cellsL v')⟩ := by
          have := foldl_splice (cellsL v') cells' off 0 (by
            have e1 := hv.cells.length
            have e2 := hc.length
            dsimp only at e1 hcond
            omega)
          rw [Nat.add_zero] at this
          rw [← this, cells_eq, ← Array.foldl_toList]
          simp
        rw [hfold]
        exact fill_ok rest rest' hs (hc.splice hv.cells off) ⟨by simpa using hp.1, fun k p p' h1 h2 => hp.2 (k + 1) p p' (by simpa using h1) (by simpa using h2)⟩
def aPlaces (P : Program) : List Field → Option (List (Nat × Nat))
  | [] => some []
  | f :: fs => match szOf P f.type, aPlaces P fs with
    | some k, some l => some ((f.offset, k) :: l)
    | _, _ => none
theorem places_ok : ∀ {fs : List Field} {l : List (Nat × Nat)}, aPlaces P fs = some l → ∀ (w : World), ((⟨fs⟩ : Array Field).mapM (m := Sem) fun f => do pure (f.offset, ← sizeOf f.type)).run P w = .ok ⟨l⟩ w := by
  intro fs
  have key : ∀ (fs : List Field) {l : List (Nat × Nat)}, aPlaces P fs = some l → ∀ (w : World), (fs.mapM (m := Sem) fun f => do pure (f.offset, ← sizeOf f.type)).run P w = .ok l w := by
    intro fs
    induction fs with
    | nil => intro l h w; simp only [aPlaces] at h; cases h; simp
    | cons f fs ih =>
      intro l h w
      simp only [aPlaces] at h
      split at h
      · rename_i k l' hk hl
        cases h
        rw [List.mapM_cons]
        simp only [Sem.run_bind, rSz hk, Result.andThen_ok, Sem.run_pure, ih hl]
      · cases h
  intro l h w
  have : (⟨fs⟩ : Array Field).mapM (m := Sem) (fun f => do pure (f.offset, ← sizeOf f.type)) = List.toArray <$> (fs.mapM (m := Sem) fun f => do pure (f.offset, ← sizeOf f.type)) := List.mapM_toArray
  rw [this]
  have e : (List.toArray <$> (fs.mapM (m := Sem) fun f => do pure (f.offset, ← sizeOf f.type)) : Sem (Array (Nat × Nat))) = (fs.mapM (m := Sem) fun f => do pure (f.offset, ← sizeOf f.type)) >>= fun l => pure l.toArray := rfl
  rw [e, Sem.run_bind, key fs h, Result.andThen_ok]
  rfl
def aParts (P : Program) (T : TypeId) : Option (Nat → Option (Nat × Nat)) := match P.underlying T with
  | some (.struct ⟨fs⟩) => (match aPlaces P fs with
    | some l => some (fun i => l[i]?)
    | none => none)
  | some (.array _ el) => (match szOf P el with
    | some k => some (fun i => some (i * k, k))
    | none => none)
  | _ => none
def aBuild (P : Program) (T : TypeId) (parts : List (Nat × Value)) : Option Value := match zeroOf P T, aParts P T with
  | some z, some pl => (match aFill pl (cellsL z) parts with
    | some l => some (.agg ⟨l⟩)
    | none => none)
  | _, _ => none
/-- Parts that stand for one another. -/
inductive PR (φ : Phi) : List (Nat × Value) → List (Nat × Value) → Prop
  | nil : PR φ [] []
  | cons {i : Nat} {v v' : Value} {l l' : List (Nat × Value)} (h : VR φ v v') (t : PR φ l l') : PR φ ((i, v) :: l) ((i, v') :: l')
theorem PR.two {l l' : List (Nat × Value)} (h : PR φ l l') : l.length = l'.length ∧ ∀ (k : Nat) (p p' : Nat × Value), l[k]? = some p → l'[k]? = some p' → p.1 = p'.1 ∧ VR φ p.2 p'.2 := by
  induction h with
  | nil => exact ⟨rfl, fun k p p' h1 => by simp at h1⟩
  | cons h t ih =>
    refine ⟨by simp [ih.1], fun k p p' h1 h2 => ?_⟩
    cases k with
    | zero => simp at h1 h2; subst h1; subst h2; exact ⟨rfl, h⟩
    | succ k => exact ih.2 k p p' (by simpa using h1) (by simpa using h2)
theorem sim_build (r : R w0 φ h w) {T : TypeId} {parts parts' : List (Nat × Value)} {v : Value} (hs : aBuild P T parts = some v) (hp : PR φ parts parts') : SimV w0 P φ h w (Instr.build T ⟨parts'⟩) v h := by
  unfold aBuild at hs
  split at hs
  · rename_i z pl hz hpl
    split at hs
    · rename_i l hl
      cases hs
      obtain ⟨hz1, hz2⟩ := rZero hz w
      obtain ⟨out', h1, h2⟩ := fill_ok parts parts' hl (pfv_refl φ hz2).cells hp.two
      refine .here r (v' := .agg ⟨out'⟩) ?_ (.agg' h2)
      unfold aParts at hpl
      unfold Instr.build
      simp only [Sem.run_bind, hz1, Result.andThen_ok, cells_eq]
      split at hpl
      · rename_i fs hu
        split at hpl
        · rename_i pls hpls
          cases hpl
          simp only [run_underlying hu, Result.andThen_ok, Sem.run_bind, places_ok hpls]
          have e : (fun i => (⟨pls⟩ : Array (Nat × Nat))[i]?) = fun (i : Nat) => pls[i]? := by funext i; simp
          rw [e, h1]
          rfl
        · cases hpl
      · rename_i n el hu
        split at hpl
        · rename_i k hk
          cases hpl
          simp only [run_underlying hu, Result.andThen_ok, Sem.run_bind, rSz hk, h1]
          rfl
        · cases hpl
      · cases hpl
    · cases hs
  · cases hs
def aBuildSlice (P : Program) (T : TypeId) (len : Nat) (parts : List (Nat × Value)) (h : AH) : Option (Value × AH) := match P.underlying T with
  | some (.slice el) => (match szOf P el, zeroOf P el with
    | some k, some z => if len * k ≤ 16777216 ∧ (cellsL z).length = k then (match aFill (fun i => some (i * k, k)) (zrep len (cellsL z)) parts with
      | some l => aRow l h len len
      | none => none) else none
    | _, _ => none)
  | _ => none
theorem sim_buildSlice (r : R w0 φ h w) {T : TypeId} {len : Nat} {parts parts' : List (Nat × Value)} {v : Value} (hs : aBuildSlice P T len parts h = some (v, h')) (hp : PR φ parts parts') :
    SimV w0 P φ h w (Instr.buildSlice T len ⟨parts'⟩) v h' := by
  unfold aBuildSlice at hs
  split at hs
  · rename_i el hu
    split at hs
    · rename_i k z hk hz
      split at hs
      · rename_i hc
        split at hs
        · rename_i l hl
          obtain ⟨hz1, hz2⟩ := rZero hz w
          obtain ⟨out', h1, h2⟩ := fill_ok parts parts' hl (zrep_rel (pfv_refl φ hz2).cells len) hp.two
          refine sim_row (P := P) r hs h2 el ?_
          unfold Instr.buildSlice
          simp only [Sem.run_bind, run_underlying hu, Result.andThen_ok, rSz hk]
          rw [if_neg (by omega)]
          by_cases hn : len * k = 0
          · have ez : zrep len (cellsL z) = [] := List.eq_nil_of_length_eq_zero (by rw [zrep_len, hc.2]; exact hn)
            have er : (Array.range (len * k)).map (fun i => (#[] : Array Value)[i % (#[] : Array Value).size]!) = ⟨[]⟩ := by
              rw [hn]
              have : Array.range 0 = (#[] : Array Nat) := Array.eq_empty_of_size_eq_zero (by simp)
              rw [this]; simp
            rw [ez] at h1
            rw [if_pos hn]
            simp only [Sem.run_pure, Sem.run_bind, Result.andThen_ok, er, h1, newRow, run_newObj_alloc]
          · rw [if_neg hn]
            simp only [Sem.run_pure, Sem.run_bind, Result.andThen_ok, hz1]
            rw [zarr (by rw [hc.2]), h1]
            simp only [Sem.run_pure, Sem.run_bind, Result.andThen_ok, newRow, run_newObj_alloc]
        · cases hs
      · cases hs
    · cases hs
  · cases hs

/-! Interfaces and tuples. -/
def aMkI (P : Program) (T : TypeId) (x : Value) : Option Value := match P.underlying T with
  | some (.interface _) => none
  | some _ => some (.iface T x)
  | none => none
theorem sim_mkI (r : R w0 φ h w) {T : TypeId} {x x' v : Value} (hs : aMkI P T x = some v) (hx : VR φ x x') : SimV w0 P φ h w (Instr.makeInterface T x') v h := by
  unfold aMkI at hs
  split at hs
  · cases hs
  · rename_i d hd hu
    cases hs
    refine .here r (v' := .iface T x') ?_ (.iface hx)
    unfold Instr.makeInterface
    simp only [Sem.run_bind, run_underlying hu, Result.andThen_ok]
    cases d <;> first | rfl | exact (hd _ rfl).elim
  · cases hs
def aExtract (x : Value) (i : Nat) : Option Value := match x with
  | .tuple ⟨l⟩ => l[i]?
  | _ => none
theorem sim_extract (r : R w0 φ h w) {x x' v : Value} {i : Nat} (hs : aExtract x i = some v) (hx : VR φ x x') : SimV w0 P φ h w (Instr.extract x' i) v h := by
  unfold aExtract at hs
  split at hs
  · rename_i l
    obtain ⟨l', rfl, hl⟩ := hx.tuple_inv
    obtain ⟨v', h1, h2⟩ := hl.get hs
    exact .here r (by simp [Instr.extract, h1]) h2
  · cases hs
def aAssert (P : Program) (x : Value) (T : TypeId) (c : Bool) : Option Value := match P.underlying T with
  | some (.interface want) => (match x with
    | .nilIface => if c then (match zeroOf P T with | some z => some (.tuple #[z, .bool false]) | none => none) else none
    | .iface t _ => (match P.info? t with
      | some i => (match Instr.missingMethod want i.methods with
        | none => some (tupOk c x true)
        | some _ => if c then (match zeroOf P T with | some z => some (.tuple #[z, .bool false]) | none => none) else none)
      | none => none)
    | _ => none)
  | some _ => (match x with
    | .nilIface => if c then (match zeroOf P T with | some z => some (.tuple #[z, .bool false]) | none => none) else none
    | .iface t v => if t = T then some (tupOk c v true) else if c then (match zeroOf P T with | some z => some (.tuple #[z, .bool false]) | none => none) else none
    | _ => none)
  | none => none
theorem sim_assert (r : R w0 φ h w) {xT T : TypeId} {x x' v : Value} {c : Bool} (hs : aAssert P x T c = some v) (hx : VR φ x x') : SimV w0 P φ h w (Instr.typeAssert x' xT T c) v h := by
  have fails : ∀ {v : Value}, (if c then (match zeroOf P T with | some z => some (.tuple #[z, .bool false]) | none => none) else none) = some v → ∃ z, c = true ∧ v = .tuple #[z, .bool false] ∧ (zeroValue T).run P w = .ok z w ∧ VR φ z z := by
    intro v hv
    split at hv
    · rename_i hc
      split at hv
      · rename_i z hz
        cases hv
        obtain ⟨hz1, hz2⟩ := rZero hz w
        exact ⟨z, hc, rfl, hz1, pfv_refl φ hz2⟩
      · cases hv
    · cases hv
  unfold aAssert at hs
  split at hs
  · rename_i want hu
    split at hs
    · cases hx
      obtain ⟨z, hc, rfl, h1, h2⟩ := fails hs
      subst hc
      refine .here r (v' := .tuple #[z, .bool false]) ?_ (.tuple' (.cons h2 (.cons (.bool _) .nil)))
      simp [Instr.typeAssert, run_underlying hu, h1]
    · rename_i t v0
      split at hs
      · rename_i i hi
        have hx' : ∃ v', x' = .iface t v' := by cases hx; exact ⟨_, rfl⟩
        obtain ⟨v', rfl⟩ := hx'
        split at hs
        · rename_i hm
          cases hs
          refine .here r (v' := tupOk c (.iface t v') true) ?_ (tupOk_rel hx)
          simp [Instr.typeAssert, run_underlying hu, rI hi, hm, tupOk]
        · rename_i m hm
          obtain ⟨z, hc, rfl, h1, h2⟩ := fails hs
          subst hc
          refine .here r (v' := .tuple #[z, .bool false]) ?_ (.tuple' (.cons h2 (.cons (.bool _) .nil)))
          simp [Instr.typeAssert, run_underlying hu, rI hi, hm, h1]
      · cases hs
    · cases hs
  · rename_i d hd hu
    split at hs
    · cases hx
      obtain ⟨z, hc, rfl, h1, h2⟩ := fails hs
      subst hc
      refine .here r (v' := .tuple #[z, .bool false]) ?_ (.tuple' (.cons h2 (.cons (.bool _) .nil)))
      cases d <;> first | exact (hd _ rfl).elim | simp [Instr.typeAssert, run_underlying hu, h1]
    · rename_i t v0
      have hx' : ∃ v', x' = .iface t v' ∧ VR φ v0 v' := by cases hx with | iface h => exact ⟨_, rfl, h⟩
      obtain ⟨v', rfl, hv⟩ := hx'
      split at hs
      · rename_i ht
        cases hs
        subst ht
        refine .here r (v' := tupOk c v' true) ?_ (tupOk_rel hv)
        cases d <;> first | exact (hd _ rfl).elim | simp [Instr.typeAssert, run_underlying hu, tupOk]
      · rename_i ht
        obtain ⟨z, hc, rfl, h1, h2⟩ := fails hs
        subst hc
        refine .here r (v' := .tuple #[z, .bool false]) ?_ (.tuple' (.cons h2 (.cons (.bool _) .nil)))
        cases d <;> first | exact (hd _ rfl).elim | simp [Instr.typeAssert, run_underlying hu, h1, ht]
    · cases hs
  · cases hs
end
end Go.X
namespace Go.X
noncomputable section
open Go Go.RowKit
variable {w0 w w' : World} {φ φ' : Phi} {h h' : AH} {P : Program} {n : Nat} {t : T Value}

/-! Equality of addresses. -/
theorem cell_at {a : Addr} {v : Value} (hv : h.cell a = some v) : ∃ c nn op ro, h.m.get a.block = some (.cells c nn op ro) ∧ a.off < nn := by
  unfold AH.cell at hv
  split at hv
  · rename_i c nn op ro ho
    split at hv
    · exact ⟨c, nn, op, ro, ho, ‹_›⟩
    · cases hv
  · cases hv
/-- A block that may be written. -/
def rwB (h : AH) (b : Nat) : Bool := match h.m.get b with
  | some (.cells _ _ _ false) => true
  | _ => false
theorem rw_at {b : Nat} (hr : rwB h b = true) {c : T Value} {nn op : Nat} {ro : Bool} (hg : h.m.get b = some (.cells c nn op ro)) : ro = false := by
  unfold rwB at hr
  rw [hg] at hr
  cases ro with
  | false => rfl
  | true => cases hr
theorem run_sameAddr (r : R w0 φ h w) {a b : Addr} {i j : Im} {va vb : Value} (hi : φ a.block = some i) (hj : φ b.block = some j) (ha : h.cell a = some va) (hb : h.cell b = some vb) (hra : rwB h a.block = true) (hrb : rwB h b.block = true) :
    (sameAddr ⟨i.c, a.off + i.d, none⟩ ⟨j.c, b.off + j.d, none⟩).run P w = .ok (decide (a.block = b.block ∧ a.off = b.off)) w := by
  obtain ⟨ca, na, opa, roa, hga, hla⟩ := cell_at ha
  obtain ⟨cb, nb, opb, rob, hgb, hlb⟩ := cell_at hb
  unfold sameAddr
  by_cases e : a.block = b.block
  · rw [e] at hi
    rw [hi] at hj; cases hj
    have : ((i.c == i.c) : Bool) = true := by simp
    rw [if_pos this]
    simp only [Sem.run_pure]
    congr 1
    by_cases e2 : a.off = b.off
    · simp [e, e2]
    · have : ¬ (a.off + i.d = b.off + i.d) := by omega
      simp [e2]
  · have hne : i.c ≠ j.c := fun hc => e (r.inj _ _ _ _ _ _ hi hj hga hgb (rw_at hra hga) hc)
    obtain ⟨_, _, _, arr, el, ⟨fz, hw, hr1, _⟩, hs, hd, _⟩ := r.dom _ _ _ hi hga
    obtain ⟨_, _, _, arr2, el2, ⟨fz2, hw2, hr2, _⟩, hs2, hd2, _⟩ := r.dom _ _ _ hj hgb
    cases hr1 (rw_at hra hga)
    cases hr2 (rw_at hrb hgb)
    rw [if_neg (by simpa using hne)]
    have e3 : decide (a.block = b.block ∧ a.off = b.off) = false := by simp [e]
    rw [e3]
    simp [noView, viewAt, mayBeOne, stringish, frozen, shape, Sem.run, World.frozen?, World.shape?, hw, hw2]
def aEqV (P : Program) (T : TypeId) (x y : Value) (h : AH) : Option Bool := match P.underlying T, x, y with
  | some (.pointer _), .pointer none, .pointer b => some b.isNone
  | some (.pointer _), .pointer (some _), .pointer none => some false
  | some (.pointer el), .pointer (some a), .pointer (some b) => (match szOf P el, h.cell a, h.cell b with
    | some (_ + 1), some _, some _ => if rwB h a.block && rwB h b.block then some (decide (a.block = b.block ∧ a.off = b.off)) else none
    | _, _, _ => none)
  | some (.interface _), .nilIface, .iface _ _ => some false
  | some (.interface _), .iface _ _, .nilIface => some false
  | some (.slice _), .slice none _ _, .slice b _ _ => some b.isNone
  | some (.slice _), .slice (some _) _ _, .slice none _ _ => some false
  | some (.map _ _), .map none, .map b => some b.isNone
  | some (.map _ _), .map (some _), .map none => some false
  | some (.func _ _ _), .nilFunc, .func _ _ _ => some false
  | some (.func _ _ _), .func _ _ _, .nilFunc => some false
  | _, _, _ => none
theorem eqIn_ok (r : R w0 φ h w) {T : TypeId} {x y x' y' : Value} {b : Bool} (hs : aEqV P T x y h = some b) (hx : VR φ x x') (hy : VR φ y y') (d : Nat) : (Op.equalIn (d + 1) T x' y').run P w = .ok b w := by
  unfold aEqV at hs
  split at hs
  · rename_i el b' hu
    cases hs; cases hx
    cases hy <;> simp only [Op.equalIn, Sem.run_bind, run_underlying hu, Result.andThen_ok] <;> rfl
  · rename_i el a hu
    cases hs
    obtain ⟨i, hi, _, rfl⟩ := hx.ptr_inv
    cases hy
    simp only [Op.equalIn, Sem.run_bind, run_underlying hu, Result.andThen_ok]; rfl
  · rename_i el a b0 hu
    split at hs
    · rename_i k va vb hk ha hb
      by_cases hrw : (rwB h a.block && rwB h b0.block) = true
      case neg => rw [if_neg hrw] at hs; cases hs
      rw [if_pos hrw] at hs
      rw [Bool.and_eq_true] at hrw
      cases hs
      obtain ⟨i, hi, _, rfl⟩ := hx.ptr_inv
      obtain ⟨j, hj, _, rfl⟩ := hy.ptr_inv
      have := run_sameAddr (P := P) r hi hj ha hb hrw.1 hrw.2
      simp only [Op.equalIn, Sem.run_bind, run_underlying hu, rSz hk, Result.andThen_ok]
      rw [if_pos (by omega)]; exact this
    · cases hs
  · rename_i ms t0 v0 hu
    cases hs; cases hx; cases hy
    simp only [Op.equalIn, Sem.run_bind, run_underlying hu, Result.andThen_ok]; rfl
  · rename_i ms t0 v0 hu
    cases hs; cases hx; cases hy
    simp only [Op.equalIn, Sem.run_bind, run_underlying hu, Result.andThen_ok]; rfl
  · rename_i el l c b0 l2 c2 hu
    cases hs; cases hx
    cases hy <;> simp only [Op.equalIn, Sem.run_bind, run_underlying hu, Result.andThen_ok] <;> rfl
  · rename_i el a l c l2 c2 hu
    cases hs
    cases hy
    cases hx <;> simp only [Op.equalIn, Sem.run_bind, run_underlying hu, Result.andThen_ok] <;> rfl
  · rename_i k el b0 hu
    cases hs; cases hx
    cases hy <;> simp only [Op.equalIn, Sem.run_bind, run_underlying hu, Result.andThen_ok] <;> rfl
  · rename_i k el b0 hu
    cases hs
    cases hy
    obtain ⟨i, _, rfl⟩ := hx.map_inv
    simp only [Op.equalIn, Sem.run_bind, run_underlying hu, Result.andThen_ok]; rfl
  · rename_i a1 a2 a3 f a b0 hu
    cases hs; cases hx; cases hy
    simp only [Op.equalIn, Sem.run_bind, run_underlying hu, Result.andThen_ok]; rfl
  · rename_i a1 a2 a3 f a b0 hu
    cases hs; cases hx; cases hy
    simp only [Op.equalIn, Sem.run_bind, run_underlying hu, Result.andThen_ok]; rfl
  · cases hs
/-- Shapes of values that ==, given so, compares by 'equal' alone. -/
def plainPair : Value → Value → Bool
  | .pointer _, .pointer _ | .nilIface, .iface _ _ | .iface _ _, .nilIface | .slice _ _ _, .slice _ _ _ | .map _, .map _ | .nilFunc, .func _ _ _ | .func _ _ _, .nilFunc => true
  | _, _ => false
theorem eqV_pair {T : TypeId} {x y : Value} {b : Bool} (hs : aEqV P T x y h = some b) : plainPair x y = true := by
  unfold aEqV at hs
  split at hs <;> first | rfl | cases hs
theorem VR.pair {x y x' y' : Value} (hx : VR φ x x') (hy : VR φ y y') (hp : plainPair x y = true) : plainPair x' y' = true := by
  cases hx <;> cases hy <;> first | rfl | (simp [plainPair] at hp)
theorem pair_guard {op : BinOp} {T : TypeId} {xo yo : Operand} {x y : Value} (hp : plainPair x y = true) (w : World) : (eqGuard op T xo yo x y).run P w = .ok () w := by
  unfold eqGuard
  cases op <;> first | rfl | (cases x <;> cases y <;> first | rfl | (simp [plainPair] at hp))
theorem pair_eql {T : TypeId} {x y : Value} (hp : plainPair x y = true) : binOp .eql T x y = (do pure (.bool (← Op.equal T x y))) := by
  cases x <;> cases y <;> first | rfl | (simp [plainPair] at hp)
theorem pair_neq {T : TypeId} {x y : Value} (hp : plainPair x y = true) : binOp .neq T x y = (do pure (.bool (!(← Op.equal T x y)))) := by
  cases x <;> cases y <;> first | rfl | (simp [plainPair] at hp)
def aBinV (P : Program) (op : BinOp) (T : TypeId) (x y : Value) (h : AH) : Option Value := match op with
  | .eql => (match aEqV P T x y h with | some b => some (.bool b) | none => none)
  | .neq => (match aEqV P T x y h with | some b => some (.bool (!b)) | none => none)
  | _ => none
theorem sim_binV (r : R w0 φ h w) {op : BinOp} {T : TypeId} {xo yo : Operand} {x y x' y' v : Value} (hs : aBinV P op T x y h = some v) (hx : VR φ x x') (hy : VR φ y y') :
    SimV w0 P φ h w (do eqGuard op T xo yo x' y'; binOp op T x' y') v h := by
  unfold aBinV at hs
  split at hs
  · split at hs
    · rename_i b hb
      cases hs
      have hp := hx.pair hy (eqV_pair hb)
      refine .here r (v' := .bool b) ?_ (.bool b)
      have := eqIn_ok r hb hx hy 9999
      rw [Sem.run_bind, pair_guard hp, Result.andThen_ok, pair_eql hp, Sem.run_bind]
      unfold Op.equal
      rw [show Op.maxDepth = 9999 + 1 from rfl, this, Result.andThen_ok]
      rfl
    · cases hs
  · split at hs
    · rename_i b hb
      cases hs
      have hp := hx.pair hy (eqV_pair hb)
      refine .here r (v' := .bool (!b)) ?_ (.bool _)
      have := eqIn_ok r hb hx hy 9999
      rw [Sem.run_bind, pair_guard hp, Result.andThen_ok, pair_neq hp, Sem.run_bind]
      unfold Op.equal
      rw [show Op.maxDepth = 9999 + 1 from rfl, this, Result.andThen_ok]
      rfl
    · cases hs
  · cases hs

/-! Strings. -/
def aStr (op : BinOp) (a b : ByteArray) : Option Value := match op with
  | .eql => some (.bool (a.data.toList == b.data.toList))
  | .neq => some (.bool (!(a.data.toList == b.data.toList)))
  | .add => if a.size + b.size < 1099511627776 then some (.string ⟨⟨a.data.toList ++ b.data.toList⟩⟩) else none
  | .lss => some (.bool (Op.bytesLess a.data.toList b.data.toList))
  | .geq => some (.bool (!Op.bytesLess a.data.toList b.data.toList))
  | .leq => some (.bool (Op.bytesLess a.data.toList b.data.toList || a.data.toList == b.data.toList))
  | .gtr => some (.bool (!(Op.bytesLess a.data.toList b.data.toList || a.data.toList == b.data.toList)))
  | _ => none
theorem sim_str (r : R w0 φ h w) {op : BinOp} {T : TypeId} {xo yo : Operand} {a b : ByteArray} {v : Value} (hs : aStr op a b = some v) :
    SimV w0 P φ h w (do eqGuard op T xo yo (.string a) (.string b); binOp op T (.string a) (.string b)) v h := by
  have hg : (eqGuard op T xo yo (.string a) (.string b)).run P w = .ok () w := by unfold eqGuard; cases op <;> rfl
  have e1 := ByteArray.toList_eq a
  have e2 := ByteArray.toList_eq b
  unfold aStr at hs
  split at hs
  all_goals first | (cases hs; done) | skip
  · cases hs
    refine .here r (v' := .bool _) ?_ (.bool _)
    rw [Sem.run_bind, hg, Result.andThen_ok]
    simp [binOp, Op.stringOp, e1, e2]
  · cases hs
    refine .here r (v' := .bool _) ?_ (.bool _)
    rw [Sem.run_bind, hg, Result.andThen_ok]
    simp [binOp, Op.stringOp, e1, e2]
  · split at hs
    · rename_i hc
      cases hs
      refine .here r (v' := .string ⟨⟨a.data.toList ++ b.data.toList⟩⟩) ?_ (.string _)
      rw [Sem.run_bind, hg, Result.andThen_ok]
      show (Op.stringOp .add a b).run P w = _
      rw [run_string_add_sum w a b (by omega)]
      have e3 : a ++ b = ⟨⟨a.data.toList ++ b.data.toList⟩⟩ := by
        apply ByteArray.ext
        rw [ByteArray.data_append]
        apply Array.ext'
        simp
      rw [e3]
    · cases hs
  · cases hs
    refine .here r (v' := .bool _) ?_ (.bool _)
    rw [Sem.run_bind, hg, Result.andThen_ok]
    simp [binOp, Op.stringOp, e1, e2]
  · cases hs
    refine .here r (v' := .bool _) ?_ (.bool _)
    rw [Sem.run_bind, hg, Result.andThen_ok]
    simp [binOp, Op.stringOp, e1, e2]
  · cases hs
    refine .here r (v' := .bool _) ?_ (.bool _)
    rw [Sem.run_bind, hg, Result.andThen_ok]
    simp [binOp, Op.stringOp, e1, e2]
  · cases hs
    refine .here r (v' := .bool _) ?_ (.bool _)
    rw [Sem.run_bind, hg, Result.andThen_ok]
    simp [binOp, Op.stringOp, e1, e2]
def intsOf : List Value → Option (List Int)
  | [] => some []
  | .int .u8 n :: l => (match intsOf l with | some m => some (n :: m) | none => none)
  | _ => none
theorem intsOf_ok {l l' : List Value} (hl : LR φ l l') : ∀ {m : List Int}, intsOf l = some m → l' = m.map (Value.int .u8) := by
  induction hl with
  | nil => intro m h; simp only [intsOf] at h; cases h; rfl
  | cons hv _ ih =>
    intro m h
    unfold intsOf at h
    split at h
    · rename_i e; cases e
    · rename_i n l0 e
      cases e
      split at h
      · rename_i m' hm
        cases h
        obtain rfl := hv.int_inv
        rw [ih hm]; rfl
      · cases h
    · cases h
def aB2S (P : Program) (sT dT : TypeId) (x : Value) (h : AH) : Option Value := match P.underlying sT, P.underlying dT, x with
  | some (.slice el), some .string, .slice (some a) l c => (match P.underlying el with
    | some (.int .u8) => (match (if l = 0 then some [] else if c = 0 then none else h.cells a 0 l) with
      | some cs => (match intsOf cs with
        | some ns => some (.string ⟨⟨ns.map fun n => UInt8.ofNat n.toNat⟩⟩)
        | none => none)
      | none => none)
    | _ => none)
  | _, _, _ => none
theorem sim_b2s (r : R w0 φ h w) {sT dT : TypeId} {x x' v : Value} (hs : aB2S P sT dT x h = some v) (hx : VR φ x x') : SimV w0 P φ h w (convert sT dT x') v h := by
  unfold aB2S at hs
  split at hs
  · rename_i el a l c hu hd
    split at hs
    · rename_i he
      split at hs
      · rename_i cs hcs
        split at hs
        · rename_i ns hns
          cases hs
          have : ∃ a' c', x' = .slice (some a') l c' ∧ (loadCells a' l).run P w = .ok (ns.map (Value.int .u8)).toArray w := by
            by_cases hl : l = 0
            · subst hl
              rw [if_pos rfl] at hcs
              cases hcs
              simp only [intsOf] at hns
              cases hns
              have : ∃ a' c', x' = .slice (some a') 0 c' := by cases hx <;> exact ⟨_, _, rfl⟩
              obtain ⟨a', c', rfl⟩ := this
              exact ⟨a', c', rfl, by simp [loadCells, loadCellsFrom]⟩
            · rw [if_neg hl] at hcs
              split at hcs
              · cases hcs
              · rename_i hc
                obtain ⟨i, c', hi, hsp, rfl⟩ := hx.sl_some hc hl
                obtain ⟨l', h1, h2, h3⟩ := r.cells hi _ _ hcs
                refine ⟨_, c', rfl, ?_⟩
                rw [run_loadCells_at h1 (fun j v hj => by have := h2 j v hj; rwa [Nat.zero_add] at this), intsOf_ok h3 hns]
          obtain ⟨a', c', rfl, hld⟩ := this
          refine .here r (v' := .string ⟨⟨ns.map fun n => UInt8.ofNat n.toNat⟩⟩) ?_ (.string _)
          rw [run_convert_bytes_string w sT dT el _ _ _ hu he hd, run_bytesToString w a' l c' ns hld]
          congr 2
          have := foldl_push_bytes ns ByteArray.empty
          rw [this]
          apply ByteArray.ext
          apply Array.ext'
          simp
        · cases hs
      · cases hs
    · cases hs
  · cases hs
end
end Go.X
namespace Go.X
noncomputable section
open Go Go.RowKit
variable {w0 w w' : World} {φ φ' : Phi} {h h' : AH} {P : Program} {n : Nat} {t : T Value}

inductive AN where
  | val (v : Value)
  | skip
  | enter (f : FuncId) (args : List Value)
  | round (b : Nat) (ts : T Value) (sz : Nat) (asg body : Code)
abbrev Outs := Option (List (AN × AH))
def one (v : Value) (h : AH) : Outs := some [(.val v, h)]
def ov (x : Option Value) (h : AH) : Outs := match x with | some v => some [(.val v, h)] | none => none
def ovh (x : Option (Value × AH)) : Outs := match x with | some (v, h) => some [(.val v, h)] | none => none
def osk (x : Option AH) : Outs := match x with | some h => some [(.skip, h)] | none => none
def oun (x : Option AH) : Outs := match x with | some h => some [(.val undef, h)] | none => none

inductive NR (φ : Phi) : AN → Next → Prop
  | val {v v' : Value} (h : VR φ v v') : NR φ (.val v) (.value v')
  | skip : NR φ .skip .skip
  | enter {f : FuncId} {l l' : List Value} (h : LR φ l l') : NR φ (.enter f l) (.enter f ⟨l'⟩)
  | round {b : Nat} {i : Im} {ts : T Value} {sz : Nat} {asg body : Code} {fn : FuncId} {arr : Array Value} (hb : φ b = some i) (hf : FR φ sz ts arr) : NR φ (.round b ts sz asg body) (.round i.c fn arr asg body)
def Sim (w0 : World) (P : Program) (φ : Phi) (h : AH) (w : World) (s : Sem Next) (l : List (AN × AH)) : Prop :=
  ∃ an h', (an, h') ∈ l ∧ ∃ nx w' φ', s.run P w = .ok nx w' ∧ Nx φ φ' h h' ∧ R w0 φ' h' w' ∧ NR φ' an nx
theorem Sim.ofV {s : Sem Value} {v : Value} {l : List (AN × AH)} (hs : SimV w0 P φ h w s v h') (hm : (.val v, h') ∈ l) : Sim w0 P φ h w (do pure (.value (← s))) l := by
  obtain ⟨v', w', φ', h1, h2, h3, h4⟩ := hs
  exact ⟨_, _, hm, .value v', w', φ', by rw [Sem.run_bind, h1]; rfl, h2, h3, .val h4⟩
theorem Sim.ofU {s : Sem Unit} {l : List (AN × AH)} (hs : ∃ w', s.run P w = .ok () w' ∧ Nx φ φ h h' ∧ R w0 φ h' w') (hm : (.skip, h') ∈ l) : Sim w0 P φ h w (do s; pure .skip) l := by
  obtain ⟨w', h1, h2, h3⟩ := hs
  exact ⟨_, _, hm, .skip, w', φ, by rw [Sem.run_bind, h1]; rfl, h2, h3, .skip⟩
theorem Sim.ov {s : Sem Value} {x : Option Value} {l : List (AN × AH)} (hl : X.ov x h = some l) (hs : ∀ v, x = some v → SimV w0 P φ h w s v h) : Sim w0 P φ h w (do pure (.value (← s))) l := by
  unfold X.ov at hl
  split at hl
  · cases hl; exact .ofV (hs _ rfl) (List.mem_singleton.2 rfl)
  · cases hl
theorem Sim.ovh {s : Sem Value} {x : Option (Value × AH)} {l : List (AN × AH)} (hl : X.ovh x = some l) (hs : ∀ v h', x = some (v, h') → SimV w0 P φ h w s v h') : Sim w0 P φ h w (do pure (.value (← s))) l := by
  unfold X.ovh at hl
  split at hl
  · cases hl; exact .ofV (hs _ _ rfl) (List.mem_singleton.2 rfl)
  · cases hl
theorem Sim.oun {s : Sem Value} {x : Option AH} {l : List (AN × AH)} (hl : X.oun x = some l) (hs : ∀ h', x = some h' → SimV w0 P φ h w s undef h') : Sim w0 P φ h w (do pure (.value (← s))) l := by
  unfold X.oun at hl
  split at hl
  · cases hl; exact .ofV (hs _ rfl) (List.mem_singleton.2 rfl)
  · cases hl
theorem Sim.osk {s : Sem Unit} {x : Option AH} {l : List (AN × AH)} (hl : X.osk x = some l) (hs : ∀ h', x = some h' → ∃ w', s.run P w = .ok () w' ∧ Nx φ φ h h' ∧ R w0 φ h' w') : Sim w0 P φ h w (do s; pure .skip) l := by
  unfold X.osk at hl
  split at hl
  · cases hl; exact .ofU (hs _ rfl) (List.mem_singleton.2 rfl)
  · cases hl

/-- Operands. -/
def aO (n : Nat) (t : T Value) (x : Operand) : Option Value := Operand.rec (motive := fun _ => Option Value)
  (fun k => Bool.rec (motive := fun _ => Option Value) (some (Option.rec (motive := fun _ => Value) undef (fun v => v) (t.get k))) none (Nat.ble n k))
  (fun v => Bool.rec (motive := fun _ => Option Value) none (some v) (pfv v)) (fun _ => none) (fun f => some (.func (.func f) #[] #[])) x
theorem aO_eq (n : Nat) (t : T Value) (x : Operand) : aO n t x = if opnOk n x then aEv t x else none := by
  cases x with
  | tmp k =>
    show Bool.rec (motive := fun _ => Option Value) _ _ (Nat.ble n k) = _
    cases hb : Nat.ble n k with
    | true =>
      have : ¬ k < n := Nat.not_lt.2 (Nat.le_of_ble_eq_true hb)
      simp [opnOk, this]
    | false =>
      have : k < n := Nat.lt_of_not_le (fun hle => by rw [Nat.ble_eq_true_of_le hle] at hb; cases hb)
      simp only [opnOk, this, decide_true, if_true, aEv]
      cases t.get k <;> rfl
  | const v =>
    show Bool.rec (motive := fun _ => Option Value) _ _ (pfv v) = _
    cases hb : pfv v <;> simp [opnOk, aEv, hb]
  | global g => rfl
  | func f => rfl
theorem aO_ok {a : Act} (f : FR φ n t a.tmps) {x : Operand} {v : Value} (hs : aO n t x = some v) : VR φ v (a.eval x) := by
  rw [aO_eq] at hs
  split at hs
  · exact aEv_ok f ‹_› hs
  · cases hs
def aOO (n : Nat) (t : T Value) : Option Operand → Option (Option Value)
  | none => some none
  | some x => match aO n t x with | some v => some (some v) | none => none
theorem aOO_ok {a : Act} (f : FR φ n t a.tmps) {x : Option Operand} {v : Option Value} (hs : aOO n t x = some v) : OptR φ v (x.map a.eval) := by
  cases x with
  | none => simp only [aOO] at hs; cases hs; exact .none
  | some x =>
    simp only [aOO] at hs
    split at hs
    · rename_i v' hv; cases hs; exact .some (aO_ok f hv)
    · cases hs
def aOs (n : Nat) (t : T Value) : List Operand → Option (List Value)
  | [] => some []
  | x :: l => match aO n t x, aOs n t l with
    | some v, some m => some (v :: m)
    | _, _ => none
theorem aOs_ok {a : Act} (f : FR φ n t a.tmps) : ∀ {l : List Operand} {m : List Value}, aOs n t l = some m → LR φ m (l.map a.eval)
  | [], m, hs => by simp only [aOs] at hs; cases hs; exact .nil
  | x :: l, m, hs => by
    simp only [aOs] at hs
    split at hs
    · rename_i v m' hv hm; cases hs; exact .cons (aO_ok f hv) (aOs_ok f hm)
    · cases hs
def aPs (n : Nat) (t : T Value) : List (Nat × Operand) → Option (List (Nat × Value))
  | [] => some []
  | (i, x) :: l => match aO n t x, aPs n t l with
    | some v, some m => some ((i, v) :: m)
    | _, _ => none
theorem aPs_ok {a : Act} (f : FR φ n t a.tmps) : ∀ {l : List (Nat × Operand)} {m : List (Nat × Value)}, aPs n t l = some m → PR φ m (l.map fun p => (p.1, a.eval p.2))
  | [], m, hs => by simp only [aPs] at hs; cases hs; exact .nil
  | (i, x) :: l, m, hs => by
    simp only [aPs] at hs
    split at hs
    · rename_i v m' hv hm; cases hs; exact .cons (aO_ok f hv) (aPs_ok f hm)
    · cases hs

/-- Steps on values without addresses. -/
def aPure (P : Program) (s : Sem Value) : Option Value := match pureRun P s with
  | some v => if pfv v then some v else none
  | none => none
theorem sim_pure (r : R w0 φ h w) {s : Sem Value} {v : Value} (hs : aPure P s = some v) : SimV w0 P φ h w s v h := by
  unfold aPure at hs
  split at hs
  · rename_i v' hv
    split at hs
    · cases hs; exact .here r (run_of_pure hv w) (pfv_refl φ ‹_›)
    · cases hs
  · cases hs
def aBin (P : Program) (op : BinOp) (T : TypeId) (xo yo : Operand) (x y : Value) (h : AH) : Option Value := match x, y with
  | .int _ _, .int _ _ => aPure P (do eqGuard op T xo yo x y; binOp op T x y)
  | .string a, .string b => aStr op a b
  | _, _ => match aBinV P op T x y h with
    | some v => some v
    | none => if pfv x && pfv y then aPure P (do eqGuard op T xo yo x y; binOp op T x y) else none
theorem sim_bin (r : R w0 φ h w) {op : BinOp} {T : TypeId} {xo yo : Operand} {x y x' y' v : Value} (hs : aBin P op T xo yo x y h = some v) (hx : VR φ x x') (hy : VR φ y y') :
    SimV w0 P φ h w (do eqGuard op T xo yo x' y'; binOp op T x' y') v h := by
  unfold aBin at hs
  split at hs
  · obtain rfl := hx.int_inv
    obtain rfl := hy.int_inv
    exact sim_pure r hs
  · cases hx; cases hy
    exact sim_str r hs
  · split at hs
    · rename_i v' hv
      cases hs
      exact sim_binV r hv hx hy
    · split at hs
      · rename_i hp
        simp only [Bool.and_eq_true] at hp
        obtain rfl := pfv_same hp.1 hx
        obtain rfl := pfv_same hp.2 hy
        exact sim_pure r hs
      · cases hs
def aConv (P : Program) (s d : TypeId) (x : Value) (h : AH) : Option Value := match aB2S P s d x h with
  | some v => some v
  | none => if pfv x then aPure P (convert s d x) else none
theorem sim_conv (r : R w0 φ h w) {s d : TypeId} {x x' v : Value} (hs : aConv P s d x h = some v) (hx : VR φ x x') : SimV w0 P φ h w (convert s d x') v h := by
  unfold aConv at hs
  split at hs
  · rename_i v' hv
    cases hs
    exact sim_b2s r hv hx
  · split at hs
    · rename_i hp
      obtain rfl := pfv_same hp hx
      exact sim_pure r hs
    · cases hs
def pfo : Option Value → Bool
  | none => true
  | some v => pfv v
theorem pfo_same {x x' : Option Value} (hp : pfo x = true) (hx : OptR φ x x') : x' = x := by
  cases hx with
  | none => rfl
  | some h => rw [pfv_same hp h]
def aSl (P : Program) (T : TypeId) (x : Value) (lo hi mx : Option Value) (h : AH) : Option Value := match aSlice P T x lo hi mx h with
  | some v => some v
  | none => if pfv x && pfo lo && pfo hi && pfo mx then aPure P (Instr.sliceAt T x lo hi mx) else none
theorem sim_sl (r : R w0 φ h w) {T : TypeId} {x v x' : Value} {lo hi mx lo' hi' mx' : Option Value} (hs : aSl P T x lo hi mx h = some v) (hx : VR φ x x') (hlo : OptR φ lo lo') (hhi : OptR φ hi hi') (hmx : OptR φ mx mx') :
    SimV w0 P φ h w (Instr.sliceAt T x' lo' hi' mx') v h := by
  unfold aSl at hs
  split at hs
  · rename_i v' hv
    cases hs
    exact sim_slice r hv hx hlo hhi hmx
  · split at hs
    · rename_i hp
      simp only [Bool.and_eq_true] at hp
      obtain rfl := pfv_same hp.1.1.1 hx
      obtain rfl := pfo_same hp.1.1.2 hlo
      obtain rfl := pfo_same hp.1.2 hhi
      obtain rfl := pfo_same hp.2 hmx
      exact sim_pure r hs
    · cases hs
def aUn (P : Program) (op : UnOp) (x : Value) : Option Value := if pfv x then aPure P (Op.unary op x) else none
theorem sim_un (r : R w0 φ h w) {op : UnOp} {x x' v : Value} (hs : aUn P op x = some v) (hx : VR φ x x') : SimV w0 P φ h w (Op.unary op x') v h := by
  unfold aUn at hs
  split at hs
  · rename_i hp
    obtain rfl := pfv_same hp hx
    exact sim_pure r hs
  · cases hs
def nilOk : Value → Bool
  | .pointer (some _) | .iface _ _ | .func (.func _) _ _ => true
  | _ => false

/-- Builtin functions. -/
def aBuiltin (P : Program) (b : Builtin) (Ts : List TypeId) (vs : List Value) (h : AH) : Outs := match b, Ts, vs with
  | .len, [T], [x] => ov (aLen P T x h) h
  | .cap, [T], [x] => ov (aCap P T x) h
  | .append, [T, U], [s, x] => ovh (aAppend P T U s x h)
  | .copy, [T, _], [d, x] => ovh (aCopy P T d x h)
  | .delete, [T, _], [m, k] => oun (aDelete P T m k h)
  | .clear, [T], [x] => oun (aClear P T x h)
  | .max, _, l => if l.all pfv then ov (aPure P (Builtin.max_ #[] 0 ⟨l⟩)) h else none
  | .min, _, l => if l.all pfv then ov (aPure P (Builtin.min_ #[] 0 ⟨l⟩)) h else none
  | _, _, _ => none
theorem all_same {l l' : List Value} (hl : LR φ l l') (hp : l.all pfv = true) : l' = l := by
  induction hl with
  | nil => rfl
  | cons hv _ ih =>
    simp only [List.all_cons, Bool.and_eq_true] at hp
    rw [pfv_same hp.1 hv, ih hp.2]
theorem LR.one_inv {v : Value} {l : List Value} (hl : LR φ [v] l) : ∃ v', l = [v'] ∧ VR φ v v' := by
  cases hl with | cons h t => cases t; exact ⟨_, rfl, h⟩
theorem LR.two_inv {v u : Value} {l : List Value} (hl : LR φ [v, u] l) : ∃ v' u', l = [v', u'] ∧ VR φ v v' ∧ VR φ u u' := by
  cases hl with | cons h t => cases t with | cons k t => cases t; exact ⟨_, _, rfl, h, k⟩
theorem sim_builtin (r : R w0 φ h w) {b : Builtin} {Ts : List TypeId} {vs vs' : List Value} {ty : TypeId} {cs : Array Bool} {l : List (AN × AH)} (hs : aBuiltin P b Ts vs h = some l) (hv : LR φ vs vs') :
    Sim w0 P φ h w (builtin b ⟨Ts⟩ ty cs ⟨vs'⟩) l := by
  unfold aBuiltin at hs
  split at hs
  · obtain ⟨v', rfl, hx⟩ := hv.one_inv
    exact .ov hs (fun v hv => sim_len r hv hx)
  · obtain ⟨v', rfl, hx⟩ := hv.one_inv
    exact .ov hs (fun v hv => sim_cap r hv hx)
  · obtain ⟨v', u', rfl, hx, hy⟩ := hv.two_inv
    exact .ovh hs (fun v h' hv => sim_append r hv hx hy)
  · obtain ⟨v', u', rfl, hx, hy⟩ := hv.two_inv
    exact .ovh hs (fun v h' hv => sim_copy r hv hx hy)
  · obtain ⟨v', u', rfl, hx, hy⟩ := hv.two_inv
    exact .oun hs (fun h' hv => sim_delete r hv hx hy)
  · obtain ⟨v', rfl, hx⟩ := hv.one_inv
    exact .oun hs (fun h' hv => sim_clear r hv hx)
  · split at hs
    · obtain rfl := all_same hv ‹_›
      exact .ov hs (fun v hv => sim_pure r hv)
    · cases hs
  · split at hs
    · obtain rfl := all_same hv ‹_›
      exact .ov hs (fun v hv => sim_pure r hv)
    · cases hs
  · cases hs
end
end Go.X
namespace Go.X
noncomputable section
open Go Go.RowKit
variable {w0 w w' : World} {φ φ' : Phi} {h h' : AH} {P : Program} {n : Nat} {t : T Value}

/-! Operations that make a block, and read nothing. -/
inductive Mk where
  | ptr
  | sl (l c : Nat)
  | mp
def Mk.val : Mk → Nat → Value
  | .ptr, b => .pointer (some ⟨b, 0, none⟩)
  | .sl l c, b => .slice (some ⟨b, 0, none⟩) l c
  | .mp, b => .map (some b)
inductive Al where
  | cells (l : List Value)
  | map
def Al.obj : Al → AObj
  | .cells l => .cells (T.fill l 0 .e) l.length 0 false
  | .map => .map [] 0 false
def Al.im (c : Nat) : Al → Im
  | .cells l => ⟨c, 0, l.length, l.length, 0⟩
  | .map => ⟨c, 0, 0, 0, 0⟩
def Al.ok : Al → Mk → Bool
  | .cells _, .ptr => true
  | .cells _, .sl _ c => decide (c < open_)
  | .map, .mp => true
  | _, _ => false
def isMapT (P : Program) (T : TypeId) : Bool := match P.underlying T with | some (.map _ _) => true | _ => false
def aAl0 (P : Program) (n : Nat) (t : T Value) : Op → Option (Al × Mk)
  | .alloc el => match zeroOf P el with | some z => some (.cells (cellsL z), .ptr) | none => none
  | .box _ x => match aO n t x with | some v => some (.cells (cellsL v), .ptr) | none => none
  | .buildSlice T len ⟨ps⟩ => match P.underlying T, aPs n t ps with
    | some (.slice el), some parts => (match szOf P el, zeroOf P el with
      | some k, some z => if len * k ≤ 16777216 ∧ (cellsL z).length = k then (match aFill (fun i => some (i * k, k)) (zrep len (cellsL z)) parts with
        | some l => some (.cells l, .sl len len)
        | none => none) else none
      | _, _ => none)
    | _, _ => none
  | .makeSlice T l c => match aO n t l, aO n t c with
    | some (.int _ l), some (.int _ c) => (match P.underlying T with
      | some (.slice el) => (match szOf P el, byOf P el, zeroOf P el with
        | some k, some by_, some z => if 0 ≤ l ∧ l ≤ c ∧ c * (by_ + 1) < 1099511627776 ∧ (cellsL z).length = k then some (.cells (zrep c.toNat (cellsL z)), .sl l.toNat c.toNat) else none
        | _, _, _ => none)
      | _ => none)
    | _, _ => none
  | .makeMap T r => match r with
    | none => some (.map, .mp)
    | some x => (match aO n t x with
      | some (.int _ _) => if isMapT P T then some (.map, .mp) else none
      | _ => none)
  | _ => none
def aAl (P : Program) (n : Nat) (t : T Value) (o : Op) : Option (Al × Mk) := match aAl0 P n t o with
  | some (al, mk) => if al.ok mk then some (al, mk) else none
  | none => none
/-- What stands for the block. -/
def AlR (φ : Phi) : Al → Obj → Prop
  | .cells l, x => ∃ l' el, x = .cells ⟨l'⟩ el (0, 0) ∧ LR φ l l'
  | .map, x => x = .map #[] 0
theorem AlR.or {al : Al} {x : Obj} {c : Nat} {mk : Mk} (hk : al.ok mk = true) (ha : AlR φ al x) (le : Le φ φ') (hw : w.heap[c]? = some x) : OR φ' (al.im c) w al.obj := by
  cases al with
  | cells l =>
    obtain ⟨l', el, rfl, hl⟩ := ha
    have hle : T.Ok (l.length) := trivial
    refine ⟨rfl, rfl, hle, ⟨l'⟩, el, ⟨(0, 0), hw, fun _ => rfl, fun k _ => by simp [World.frozen?, Al.im, hw]⟩, by simp [Al.im, hl.length], by simp [Al.im], fun k hk => ?_⟩
    obtain ⟨v', h1, h2⟩ := hl.get (List.getElem?_eq_getElem hk)
    refine ⟨l[k], v', ?_, by simpa [Al.im] using h1, h2.mono le⟩
    rw [T.get_fill, if_pos (by omega)]
    simp [hk]
  | map => exact ⟨#[], by rw [show x = .map #[] 0 from ha] at hw; exact hw, .nil⟩
theorem Mk.rel {al : Al} {mk : Mk} {b c : Nat} (hk : al.ok mk = true) (hb : φ b = some (al.im c)) : VR φ (mk.val b) (mk.val c) := by
  cases al with
  | cells l => cases mk with
    | ptr => exact .ptr (a := ⟨b, 0, none⟩) _ hb rfl
    | sl l0 c0 =>
      simp only [Al.ok, Bool.and_eq_true, decide_eq_true_eq] at hk
      exact .slice (a := ⟨b, 0, none⟩) _ hb rfl (by omega)
    | mp => simp [Al.ok] at hk
  | map => cases mk with
    | mp => exact .map _ hb
    | _ => simp [Al.ok] at hk
theorem al0_run {a : Act} (f : FR φ n t a.tmps) {o : Oper} {al : Al} {mk : Mk} (hs : aAl0 P n t o.op = some (al, mk)) :
    ∃ x, AlR φ al x ∧ ∀ w : World, (execOp a.eval o).run P w = .ok (.value (mk.val w.heap.size)) (w.alloc x) := by
  cases hop : o.op with
  | alloc el =>
    rw [hop] at hs
    simp only [aAl0] at hs
    split at hs
    · rename_i z hz
      cases hs
      have hz2 := (rZero hz default).2
      refine ⟨.cells ⟨cellsL z⟩ el (0, 0), ⟨_, _, rfl, (pfv_refl φ hz2).cells⟩, fun w => ?_⟩
      have hz1 := (rZero hz w).1
      simp only [execOp, hop, Instr.alloc, Sem.run_bind, hz1, Result.andThen_ok, newVar, newRow, run_newObj_alloc, Sem.run_pure, cells_eq, Mk.val]
    · cases hs
  | box el x =>
    rw [hop] at hs
    simp only [aAl0] at hs
    split at hs
    · rename_i v hv
      cases hs
      refine ⟨.cells ⟨cellsL (a.eval x)⟩ el (0, 0), ⟨_, _, rfl, (aO_ok f hv).cells⟩, fun w => ?_⟩
      simp only [execOp, hop, Instr.box, newVar, newRow, Sem.run_bind, run_newObj_alloc, Result.andThen_ok, Sem.run_pure, cells_eq, Mk.val]
    · cases hs
  | buildSlice T len parts =>
    obtain ⟨ps⟩ := parts
    rw [hop] at hs
    simp only [aAl0] at hs
    split at hs
    · rename_i el parts hu hps
      split at hs
      · rename_i k z hk hz
        split at hs
        · rename_i hc
          split at hs
          · rename_i l hl
            cases hs
            have hz2 := (rZero hz default).2
            have hpr := aPs_ok f hps
            obtain ⟨out', h1, h2⟩ := fill_ok parts _ hl (zrep_rel (pfv_refl φ hz2).cells len) hpr.two
            refine ⟨.cells ⟨out'⟩ el (0, 0), ⟨_, _, rfl, h2⟩, fun w => ?_⟩
            have hz1 := (rZero hz w).1
            have hmap : ((⟨ps⟩ : Array (Nat × Operand)).map fun (i, x) => (i, a.eval x)) = ⟨ps.map fun p => (p.1, a.eval p.2)⟩ := by
              apply Array.ext'; simp
            simp only [execOp, hop, hmap]
            have hrun : (Instr.buildSlice T len ⟨ps.map fun p => (p.1, a.eval p.2)⟩).run P w = .ok (.slice (some ⟨w.heap.size, 0, none⟩) len len) (w.alloc (.cells ⟨out'⟩ el (0, 0))) := by
              unfold Instr.buildSlice
              simp only [Sem.run_bind, run_underlying hu, Result.andThen_ok, rSz hk]
              rw [if_neg (by omega)]
              by_cases hn : len * k = 0
              · have ez : zrep len (cellsL z) = [] := List.eq_nil_of_length_eq_zero (by rw [zrep_len, hc.2]; exact hn)
                have er : (Array.range (len * k)).map (fun i => (#[] : Array Value)[i % (#[] : Array Value).size]!) = ⟨[]⟩ := by
                  rw [hn]
                  have : Array.range 0 = (#[] : Array Nat) := Array.eq_empty_of_size_eq_zero (by simp)
                  rw [this]; simp
                rw [ez] at h1
                rw [if_pos hn]
                simp only [Sem.run_pure, Sem.run_bind, Result.andThen_ok, er, h1, newRow, run_newObj_alloc]
              · rw [if_neg hn]
                simp only [Sem.run_pure, Sem.run_bind, Result.andThen_ok, hz1]
                rw [zarr (by rw [hc.2]), h1]
                simp only [Sem.run_pure, Sem.run_bind, Result.andThen_ok, newRow, run_newObj_alloc]
            rw [Sem.run_bind, hrun]; rfl
          · cases hs
        · cases hs
      · cases hs
    · cases hs
  | makeSlice T lx cx =>
    rw [hop] at hs
    simp only [aAl0] at hs
    split at hs
    · rename_i k1 l k2 c hl hc
      have el := (aO_ok f hl).int_inv
      have ec := (aO_ok f hc).int_inv
      split at hs
      · rename_i el' hu
        split at hs
        · rename_i k by_ z hk hb hz
          split at hs
          · rename_i hcond
            cases hs
            obtain ⟨h1, h2, h3, h4⟩ := hcond
            have hz2 := (rZero hz default).2
            obtain ⟨i, hi, hisz⟩ := rI' hk
            have hib : i.bytes = by_ := by unfold byOf at hb; rw [hi] at hb; simpa using hb
            have hcc : c < 1099511627776 := by
              have : c * 1 ≤ c * (by_ + 1 : Int) := Int.mul_le_mul_of_nonneg_left (by omega) (by omega)
              omega
            have hcb : (by_ : Int) * c ≤ 281474976710656 := by
              have : c * (by_ + 1 : Int) = by_ * c + c := by rw [Int.mul_add, Int.mul_comm, Int.mul_one]
              omega
            have hroom : ¬ (140737488355328 < c.toNat * by_) := by
              have e : ((c.toNat * by_ : Nat) : Int) = c * by_ := by push_cast; rw [Int.toNat_of_nonneg (by omega)]
              have : c * (by_ + 1 : Int) = c * by_ + c := by rw [Int.mul_add, Int.mul_one]
              omega
            refine ⟨.cells ⟨zrep c.toNat (cellsL z)⟩ el' (0, 0), ⟨_, _, rfl, zrep_rel (pfv_refl φ hz2).cells _⟩, fun w => ?_⟩
            have hz1 := (rZero hz w).1
            have hrun : (Instr.makeSlice T (.int k1 l) (.int k2 c)).run P w = .ok (.slice (some ⟨w.heap.size, 0, none⟩) l.toNat c.toNat) (w.alloc (.cells ⟨zrep c.toNat (cellsL z)⟩ el' (0, 0))) := by
              unfold Instr.makeSlice
              simp only [Sem.run_bind, run_underlying hu, Result.andThen_ok, asInt, asIntOf, Sem.run_pure, rI hi, wrap64 (show 0 ≤ c by omega) hcc, wrap64 h1 (show l < 1099511627776 by omega)]
              have t1 : (decide (c < 0) || decide ((i.bytes : Int) * c > 2 ^ 48)) = false := by
                rw [hib]; simp only [Bool.or_eq_false_iff, decide_eq_false_iff_not]; omega
              simp only [t1, Bool.false_or]
              rw [if_neg (by simp; omega)]
              simp only [askRoom, roomBytes, hib]
              rw [if_neg (by omega)]
              simp only [Sem.run_pure, Sem.run_bind, Result.andThen_ok, rSz hk]
              by_cases hn : c.toNat * k = 0
              · have ez : zrep c.toNat (cellsL z) = [] := List.eq_nil_of_length_eq_zero (by rw [zrep_len, h4]; exact hn)
                rw [if_pos hn]
                have er : Array.range 0 = (#[] : Array Nat) := Array.eq_empty_of_size_eq_zero (by simp)
                simp [newRow, ez, hn, er]
              · rw [if_neg hn]
                simp only [Sem.run_bind, hz1, Sem.run_pure, Result.andThen_ok, newRow, run_newObj_alloc]
                rw [zarr (by rw [h4])]
            simp only [execOp, hop, el, ec]
            rw [Sem.run_bind, hrun]; rfl
          · cases hs
        · cases hs
      · cases hs
    · cases hs
  | makeMap T rr =>
    rw [hop] at hs
    simp only [aAl0] at hs
    cases rr with
    | none =>
      cases hs
      refine ⟨.map #[] 0, rfl, fun w => ?_⟩
      simp [execOp, hop, Instr.makeMap, Mk.val]
    | some x =>
      dsimp only at hs
      split at hs
      · rename_i kk q hx
        split at hs
        · rename_i hm
          cases hs
          have ex := (aO_ok f hx).int_inv
          unfold isMapT at hm
          split at hm
          · rename_i k el hu
            refine ⟨.map #[] 0, rfl, fun w => ?_⟩
            simp [execOp, hop, Instr.makeMap, Mk.val, ex, run_underlying hu, asInt, asIntOf]
          · cases hm
        · cases hs
      · cases hs
  | _ => rw [hop] at hs; simp [aAl0] at hs
theorem al_run {a : Act} (f : FR φ n t a.tmps) {o : Oper} {al : Al} {mk : Mk} (hs : aAl P n t o.op = some (al, mk)) :
    al.ok mk = true ∧ ∃ x, AlR φ al x ∧ ∀ w : World, (execOp a.eval o).run P w = .ok (.value (mk.val w.heap.size)) (w.alloc x) := by
  unfold aAl at hs
  split at hs
  · rename_i al0 mk0 h0
    split at hs
    · rename_i hk; cases hs; exact ⟨hk, al0_run f h0⟩
    · cases hs
  · cases hs
def AH.newAl (h : AH) (al : Al) : Option (Nat × AH) := if true = true then some (h.next, ⟨h.m.set h.next (some al.obj), h.next + 1⟩) else none
def aNew (x : Option (Al × Mk)) (h : AH) : Outs := match x with
  | some (al, mk) => (match h.newAl al with
    | some (b, h') => some [(.val (mk.val b), h')]
    | none => none)
  | none => none
end
end Go.X
namespace Go.X
noncomputable section
open Go Go.RowKit
variable {w0 w w' : World} {φ φ' : Phi} {h h' : AH} {P : Program} {n : Nat} {t : T Value}

/-- The entry that an iterator is at. -/
def aEntryIt (it : Value) (h : AH) : Option Value := match it with
  | .pointer (some ⟨b, 0, none⟩) => (match h.m.get b with
    | some (.iter (some bm) _ seen st) => (match h.m.get bm, seen.getLast? with
      | some (.map es cl _), some q => if cl = st then (match es.find? (fun e => e.2.2 == q) with
        | some e => some (.tuple #[e.1, e.2.1])
        | none => none) else none
      | _, _ => none)
    | _ => none)
  | _ => none
theorem ER.find {es : List (Value × Value × Nat)} {l : List MapEntry} (he : ER φ es l) (q : Nat) {e : Value × Value × Nat} (hf : es.find? (fun e => e.2.2 == q) = some e) :
    ∃ e', l.find? (fun e => e.born == q) = some e' ∧ VR φ e.1 e'.key ∧ VR φ e.2.1 e'.val := by
  induction he with
  | nil => simp at hf
  | @cons k v k' v' b l l' hk hv _ ih =>
    simp only [List.find?_cons] at hf ⊢
    cases hb : (b == q) with
    | true => rw [hb] at hf; simp at hf; subst hf; exact ⟨_, rfl, hk, hv⟩
    | false => rw [hb] at hf; simpa using ih hf
theorem sim_entryIt (r : R w0 φ h w) {it it' v : Value} (hs : aEntryIt it h = some v) (hit : VR φ it it') : SimV w0 P φ h w (Instr.entry it') v h := by
  unfold aEntryIt at hs
  split at hs
  · rename_i b
    obtain ⟨i, hi, _, rfl⟩ := hit.ptr_inv
    have hi : φ b = some i := hi
    split at hs
    · rename_i bm since seen st ho
      obtain ⟨hd, m', hw, hm⟩ := r.dom _ _ _ hi ho
      obtain ⟨im, him, e⟩ := hm.map_inv
      cases e
      have hget : (getObj i.c).run P w = .ok (.mapIter (some im.c) since ⟨seen⟩ st) w := by simp [getObj, Sem.run, hw]
      rw [hd]
      split at hs
      · rename_i es cl ro q hom hq
        obtain ⟨arr, h1, _, h2⟩ := r.map (P := P) him hom
        split at hs
        · rename_i hcl
          split at hs
          · rename_i e hf
            cases hs
            obtain ⟨e', h3, h4, h5⟩ := h2.find q hf
            have h3' : arr.find? (fun e => e.born == q) = some e' := by rw [← Array.find?_toList]; exact h3
            have hq' : (⟨seen⟩ : Array Nat).back? = some q := by rw [← Array.getLast?_toList]; exact hq
            refine .here r (v' := .tuple #[e'.key, e'.val]) ?_ (.tuple' (.cons h4 (.cons h5 .nil)))
            subst hcl
            simp [Instr.entry, hget, hq', h1, h3']
          · cases hs
        · cases hs
      · cases hs
    · cases hs
  · cases hs

/-- Operations that change nothing. -/
def aVal0 (P : Program) (n : Nat) (t : T Value) (h : AH) : Op → Option Value
  | .move x => aO n t x
  | .assign x => aO n t x
  | .pick c a b => match aO n t c with
    | some (.bool q) => aO n t (if q then a else b)
    | _ => none
  | .build T ⟨ps⟩ => match aPs n t ps with | some l => aBuild P T l | none => none
  | .load T x => match aO n t x with | some (.pointer (some a)) => aLoad P T a h | _ => none
  | .nilCheck x => match aO n t x with | some v => if nilOk v then some v else none | none => none
  | .binOp op T x y _ => match aO n t x, aO n t y with | some a, some b => aBin P op T x y a b h | _, _ => none
  | .unOp op _ x => match aO n t x with | some v => aUn P op v | none => none
  | .convert s d x => match aO n t x with | some v => aConv P s d v h | none => none
  | .makeInterface T x => match aO n t x with | some v => aMkI P T v | none => none
  | .makeFunc (.func f) ⟨l⟩ ⟨m⟩ => match aOs n t l, aOs n t m with | some a, some b => some (.func (.func f) ⟨a⟩ ⟨b⟩) | _, _ => none
  | .slice T x lo hi mx => match aO n t x, aOO n t lo, aOO n t hi, aOO n t mx with | some v, some a, some b, some c => aSl P T v a b c h | _, _, _, _ => none
  | .fieldAddr s x f => match aO n t x with | some (.pointer (some a)) => aField P s a f | _ => none
  | .field T x f => match aO n t x with | some v => aFieldV P T v f | none => none
  | .indexAddr T x i => match aO n t x, aO n t i with | some v, some j => aIndex P T v j | _, _ => none
  | .index T x i => match aO n t x, aO n t i with | some v, some j => aIndexV P T v j | _, _ => none
  | .lookup T x k c => match aO n t x, aO n t k with | some v, some j => aLookup P T v j c h | _, _ => none
  | .typeAssert x _ T c => match aO n t x with | some v => aAssert P v T c | none => none
  | .extract x i => match aO n t x with | some v => aExtract v i | none => none
  | .entry it => match aO n t it with | some v => aEntryIt v h | none => none
  | .call ⟨.builtin .len, ⟨[x]⟩, ⟨[T]⟩⟩ => match aO n t x with | some v => aLen P T v h | none => none
  | .call ⟨.builtin .cap, ⟨[x]⟩, ⟨[T]⟩⟩ => match aO n t x with | some v => aCap P T v | none => none
  | _ => none
theorem amap {α β : Type} (f : α → β) (l : List α) : Array.map f ⟨l⟩ = ⟨l.map f⟩ := by apply Array.ext'; simp
theorem exec_builtin {ρ : Operand → Value} {o : Oper} {b : Builtin} {args : List Operand} {Ts : Array TypeId} (hop : o.op = .call ⟨.builtin b, ⟨args⟩, Ts⟩) :
    ∃ cs, execOp ρ o = builtin b Ts o.type cs ⟨args.map ρ⟩ := by
  refine ⟨Array.map (fun x : Operand => match x with | Operand.const _ => true | _ => false) ⟨args⟩, ?_⟩
  simp only [execOp, hop, resolve]
  rw [amap ρ args]
  rfl
theorem simN0 (r : R w0 φ h w) {a : Act} (f : FR φ n t a.tmps) {o : Oper} {v : Value} (hs : aVal0 P n t h o.op = some v) :
    ∃ nx w' φ', (execOp a.eval o).run P w = .ok nx w' ∧ Nx φ φ' h h ∧ R w0 φ' h w' ∧ NR φ' (.val v) nx := by
  have fin : ∀ {s : Sem Value}, SimV w0 P φ h w s v h → execOp a.eval o = (do pure (.value (← s))) → ∃ nx w' φ', (execOp a.eval o).run P w = .ok nx w' ∧ Nx φ φ' h h ∧ R w0 φ' h w' ∧ NR φ' (.val v) nx := by
    intro s hsv he
    obtain ⟨v', w', φ', h1, h2, h3, h4⟩ := hsv
    exact ⟨.value v', w', φ', by rw [he, Sem.run_bind, h1]; rfl, h2, h3, .val h4⟩
  cases hop : o.op with
  | move x =>
    rw [hop] at hs; simp only [aVal0] at hs
    exact fin (s := pure (a.eval x)) (.pure r (aO_ok f hs)) (by simp only [execOp, hop]; rfl)
  | assign x =>
    rw [hop] at hs; simp only [aVal0] at hs
    exact fin (s := pure (a.eval x)) (.pure r (aO_ok f hs)) (by simp only [execOp, hop]; rfl)
  | pick c x y =>
    rw [hop] at hs; simp only [aVal0] at hs
    split at hs
    · rename_i q hq
      have hc := (aO_ok f hq).bool_inv
      refine fin (s := pure (if q then a.eval x else a.eval y)) (.pure r ?_) ?_
      · have := aO_ok f hs
        cases q <;> exact this
      · simp only [execOp, hop, hc, asBool]; rfl
    · cases hs
  | build T parts =>
    obtain ⟨ps⟩ := parts
    rw [hop] at hs; simp only [aVal0] at hs
    split at hs
    · rename_i l hl
      have hmap : ((⟨ps⟩ : Array (Nat × Operand)).map fun (i, x) => (i, a.eval x)) = ⟨ps.map fun p => (p.1, a.eval p.2)⟩ := by
        apply Array.ext'; simp
      exact fin (sim_build r hs (aPs_ok f hl)) (by simp only [execOp, hop, hmap])
    · cases hs
  | load T x =>
    rw [hop] at hs; simp only [aVal0] at hs
    split at hs
    · rename_i ad hx
      exact fin (sim_load r hs (aO_ok f hx)) (by simp only [execOp, hop])
    · cases hs
  | nilCheck x =>
    rw [hop] at hs; simp only [aVal0] at hs
    split at hs
    · rename_i v0 hv
      split at hs
      · rename_i hk
        cases hs
        have hv' := aO_ok f hv
        refine fin (s := pure (a.eval x)) (.pure r hv') ?_
        simp only [execOp, hop]
        unfold nilOk at hk
        split at hk
        · obtain ⟨i, _, _, e⟩ := hv'.ptr_inv; rw [e]; rfl
        · generalize a.eval x = u at hv'; cases hv'; rfl
        · generalize a.eval x = u at hv'; cases hv' with
          | func hf => cases hf with | same hf => rfl
        · cases hk
      · cases hs
    · cases hs
  | binOp op T x y yT =>
    rw [hop] at hs; simp only [aVal0] at hs
    split at hs
    · rename_i va vb hx hy
      exact fin (sim_bin r hs (aO_ok f hx) (aO_ok f hy)) (by simp only [execOp, hop])
    · cases hs
  | unOp op T x =>
    rw [hop] at hs; simp only [aVal0] at hs
    split at hs
    · rename_i va hx
      exact fin (sim_un r hs (aO_ok f hx)) (by simp only [execOp, hop])
    · cases hs
  | convert s d x =>
    rw [hop] at hs; simp only [aVal0] at hs
    split at hs
    · rename_i va hx
      exact fin (sim_conv r hs (aO_ok f hx)) (by simp only [execOp, hop])
    · cases hs
  | makeInterface T x =>
    rw [hop] at hs; simp only [aVal0] at hs
    split at hs
    · rename_i va hx
      exact fin (sim_mkI r hs (aO_ok f hx)) (by simp only [execOp, hop])
    · cases hs
  | makeFunc fn l m =>
    obtain ⟨l⟩ := l
    obtain ⟨m⟩ := m
    rw [hop] at hs
    cases fn with
    | func k =>
      simp only [aVal0] at hs
      split at hs
      · rename_i va vb hx hy
        cases hs
        refine fin (s := pure (.func (.func k) ⟨l.map a.eval⟩ ⟨m.map a.eval⟩)) (.pure r (.func' (.same (fun l e => by cases e)) (aOs_ok f hx) (aOs_ok f hy))) ?_
        simp only [execOp, hop, Instr.makeFunc]
        simp
      · cases hs
    | _ => simp [aVal0] at hs
  | slice T x lo hi mx =>
    rw [hop] at hs; simp only [aVal0] at hs
    split at hs
    · rename_i va x1 x2 x3 hx h1 h2 h3
      exact fin (sim_sl r hs (aO_ok f hx) (aOO_ok f h1) (aOO_ok f h2) (aOO_ok f h3)) (by simp only [execOp, hop])
    · cases hs
  | fieldAddr s x k =>
    rw [hop] at hs; simp only [aVal0] at hs
    split at hs
    · rename_i ad hx
      exact fin (sim_field r hs (aO_ok f hx)) (by simp only [execOp, hop])
    · cases hs
  | field T x k =>
    rw [hop] at hs; simp only [aVal0] at hs
    split at hs
    · rename_i va hx
      exact fin (sim_fieldV r hs (aO_ok f hx)) (by simp only [execOp, hop])
    · cases hs
  | indexAddr T x i =>
    rw [hop] at hs; simp only [aVal0] at hs
    split at hs
    · rename_i va vb hx hy
      exact fin (sim_index r hs (aO_ok f hx) (aO_ok f hy)) (by simp only [execOp, hop])
    · cases hs
  | index T x i =>
    rw [hop] at hs; simp only [aVal0] at hs
    split at hs
    · rename_i va vb hx hy
      exact fin (sim_indexV r hs (aO_ok f hx) (aO_ok f hy)) (by simp only [execOp, hop])
    · cases hs
  | lookup T x k c =>
    rw [hop] at hs; simp only [aVal0] at hs
    split at hs
    · rename_i va vb hx hy
      exact fin (sim_lookup r hs (aO_ok f hx) (aO_ok f hy)) (by simp only [execOp, hop])
    · cases hs
  | typeAssert x xT T c =>
    rw [hop] at hs; simp only [aVal0] at hs
    split at hs
    · rename_i va hx
      exact fin (sim_assert (xT := xT) r hs (aO_ok f hx)) (by simp only [execOp, hop])
    · cases hs
  | extract x i =>
    rw [hop] at hs; simp only [aVal0] at hs
    split at hs
    · rename_i va hx
      exact fin (sim_extract r hs (aO_ok f hx)) (by simp only [execOp, hop])
    · cases hs
  | entry it =>
    rw [hop] at hs; simp only [aVal0] at hs
    split at hs
    · rename_i va hx
      exact fin (sim_entryIt r hs (aO_ok f hx)) (by simp only [execOp, hop])
    · cases hs
  | call c =>
    rw [hop] at hs
    unfold aVal0 at hs
    split at hs
    all_goals first | (rename_i e; cases e; done) | skip
    · rename_i x T e
      cases e
      split at hs
      · rename_i va hx
        refine fin (s := Builtin.len_ #[T] o.type #[a.eval x]) (sim_len r hs (aO_ok f hx)) ?_
        obtain ⟨cs, hcs⟩ := exec_builtin (ρ := a.eval) hop
        rw [hcs]
        rfl
      · cases hs
    · rename_i x T e
      cases e
      split at hs
      · rename_i va hx
        refine fin (s := Builtin.cap_ #[T] o.type #[a.eval x]) (sim_cap r hs (aO_ok f hx)) ?_
        obtain ⟨cs, hcs⟩ := exec_builtin (ρ := a.eval) hop
        rw [hcs]
        rfl
      · cases hs
    · cases hs
  | _ => rw [hop] at hs; simp [aVal0] at hs

/-- Operations that change the heap, and call no function. -/
def onext (x : Option (List (Value × AH))) : Outs := match x with | some l => some (l.map fun p => (.val p.1, p.2)) | none => none
/-- The same, laid out so that what depends on the operation alone is found once. -/
structure VB where
  f : Program → Nat → T Value → AH → Option Value
/-- Numbers, fast. -/
def kInt : BinOp → Option (Int → Int → Value)
  | .add => some fun a b => .int .i64 (IntKind.i64.wrap (a + b))
  | .sub => some fun a b => .int .i64 (IntKind.i64.wrap (a - b))
  | .lss => some fun a b => .bool (a < b)
  | .leq => some fun a b => .bool (a ≤ b)
  | .gtr => some fun a b => .bool (a > b)
  | .geq => some fun a b => .bool (a ≥ b)
  | .eql => some fun a b => .bool (a == b)
  | .neq => some fun a b => .bool (a != b)
  | _ => none
theorem kInt_ok {op : BinOp} {g : Int → Int → Value} (hg : kInt op = some g) (T : TypeId) (x y : Operand) (a b : Int) : aBin P op T x y (.int .i64 a) (.int .i64 b) h = some (g a b) := by
  cases op <;> first | (cases hg; rfl) | (cases hg)
def kVal : Op → VB
  | .move x => ⟨fun _ n t _ => aO n t x⟩
  | .assign x => ⟨fun _ n t _ => aO n t x⟩
  | .pick c a b => ⟨fun _ n t _ => match aO n t c with
    | some (.bool q) => aO n t (if q then a else b)
    | _ => none⟩
  | .build T ⟨ps⟩ => ⟨fun P n t _ => match aPs n t ps with | some l => aBuild P T l | none => none⟩
  | .load T x => ⟨fun P n t h => match aO n t x with | some (.pointer (some a)) => aLoad P T a h | _ => none⟩
  | .nilCheck x => ⟨fun _ n t _ => match aO n t x with | some v => if nilOk v then some v else none | none => none⟩
  | .binOp op T x y _ => match kInt op with
    | some g => ⟨fun P n t h => match aO n t x, aO n t y with | some (.int .i64 a), some (.int .i64 b) => some (g a b) | some a, some b => aBin P op T x y a b h | _, _ => none⟩
    | none => ⟨fun P n t h => match aO n t x, aO n t y with | some a, some b => aBin P op T x y a b h | _, _ => none⟩
  | .unOp op _ x => ⟨fun P n t _ => match aO n t x with | some v => aUn P op v | none => none⟩
  | .convert s d x => ⟨fun P n t h => match aO n t x with | some v => aConv P s d v h | none => none⟩
  | .makeInterface T x => ⟨fun P n t _ => match aO n t x with | some v => aMkI P T v | none => none⟩
  | .makeFunc (.func f) ⟨l⟩ ⟨m⟩ => ⟨fun _ n t _ => match aOs n t l, aOs n t m with | some a, some b => some (.func (.func f) ⟨a⟩ ⟨b⟩) | _, _ => none⟩
  | .slice T x lo hi mx => ⟨fun P n t h => match aO n t x, aOO n t lo, aOO n t hi, aOO n t mx with | some v, some a, some b, some c => aSl P T v a b c h | _, _, _, _ => none⟩
  | .fieldAddr s x f => ⟨fun P n t _ => match aO n t x with | some (.pointer (some a)) => aField P s a f | _ => none⟩
  | .field T x f => ⟨fun P n t _ => match aO n t x with | some v => aFieldV P T v f | none => none⟩
  | .indexAddr T x i => ⟨fun P n t _ => match aO n t x, aO n t i with | some v, some j => aIndex P T v j | _, _ => none⟩
  | .index T x i => ⟨fun P n t _ => match aO n t x, aO n t i with | some v, some j => aIndexV P T v j | _, _ => none⟩
  | .lookup T x k c => ⟨fun P n t h => match aO n t x, aO n t k with | some v, some j => aLookup P T v j c h | _, _ => none⟩
  | .typeAssert x _ T c => ⟨fun P n t _ => match aO n t x with | some v => aAssert P v T c | none => none⟩
  | .extract x i => ⟨fun _ n t _ => match aO n t x with | some v => aExtract v i | none => none⟩
  | .entry it => ⟨fun _ n t h => match aO n t it with | some v => aEntryIt v h | none => none⟩
  | .call ⟨.builtin .len, ⟨[x]⟩, ⟨[T]⟩⟩ => ⟨fun P n t h => match aO n t x with | some v => aLen P T v h | none => none⟩
  | .call ⟨.builtin .cap, ⟨[x]⟩, ⟨[T]⟩⟩ => ⟨fun P n t _ => match aO n t x with | some v => aCap P T v | none => none⟩
  | _ => ⟨fun _ _ _ _ => none⟩
def aVal (P : Program) (n : Nat) (t : T Value) (h : AH) (o : Op) : Option Value := (kVal o).f P n t h
theorem aVal_eq (o : Op) : aVal P n t h o = aVal0 P n t h o := by
  cases o with
  | binOp op T x y yt =>
    unfold aVal kVal
    dsimp only
    cases hg : kInt op with
    | none => rfl
    | some g =>
      dsimp only
      simp only [aVal0]
      split
      · rename_i a b h1 h2
        rw [h1, h2]; exact (kInt_ok hg T x y a b).symm
      · rename_i a b _ h1 h2
        rw [h1, h2]
      · rename_i h0 h1
        split
        · rename_i a b h2 h3; exact (h1 _ _ h2 h3).elim
        · rfl
  | _ => unfold aVal kVal aVal0; first | rfl | (split <;> first | rfl | (exfalso; simp_all; done))
theorem simN (r : R w0 φ h w) {a : Act} (f : FR φ n t a.tmps) {o : Oper} {v : Value} (hs : aVal P n t h o.op = some v) :
    ∃ nx w' φ', (execOp a.eval o).run P w = .ok nx w' ∧ Nx φ φ' h h ∧ R w0 φ' h w' ∧ NR φ' (.val v) nx := simN0 r f (by rw [← aVal_eq]; exact hs)
def aAct0 (P : Program) (n : Nat) (t : T Value) (h : AH) : Op → Outs
  | .store T a x => match aO n t a, aO n t x with | some (.pointer (some p)), some v => osk (aStore P T p v h) | _, _ => none
  | .mapUpdate T m k x => match aO n t m, aO n t k, aO n t x with | some a, some b, some c => osk (aUpdate P T a b c h) | _, _, _ => none
  | .insert T m k x => match aO n t m, aO n t k, aO n t x with | some a, some b, some c => osk (aUpdate P T a b c h) | _, _, _ => none
  | .mapEntry T m k => match aO n t m, aO n t k with | some a, some b => ovh (aEntry P T a b h) | _, _ => none
  | .entryStore T m s x => match aO n t m, aO n t s, aO n t x with | some a, some b, some c => osk (aEStore T a b c h) | _, _, _ => none
  | .range T x => match aO n t x with | some v => ovh (aRange P T v h) | none => none
  | .next it isS => match aO n t it with | some v => onext (aNext v isS h) | none => none
  | .call ⟨.builtin b, ⟨args⟩, ⟨Ts⟩⟩ => match aOs n t args with | some vs => aBuiltin P b Ts vs h | none => none
  | _ => none
theorem simA0 (r : R w0 φ h w) {a : Act} (f : FR φ n t a.tmps) {o : Oper} {l : List (AN × AH)} (hs : aAct0 P n t h o.op = some l) : Sim w0 P φ h w (execOp a.eval o) l := by
  cases hop : o.op with
  | store T x y =>
    rw [hop] at hs; simp only [aAct0] at hs
    split at hs
    · rename_i p v hx hy
      have he : execOp a.eval o = (do Instr.storeAt T (a.eval x) (a.eval y); pure .skip) := by simp only [execOp, hop]
      rw [he]
      exact .osk hs (fun h' hh => sim_store r hh (aO_ok f hx) (aO_ok f hy))
    · cases hs
  | mapUpdate T m k x =>
    rw [hop] at hs; simp only [aAct0] at hs
    split at hs
    · rename_i va vb vc h1 h2 h3
      have he : execOp a.eval o = (do Instr.mapUpdate T (a.eval m) (a.eval k) (a.eval x); pure .skip) := by simp only [execOp, hop]
      rw [he]
      exact .osk hs (fun h' hh => sim_update r hh (aO_ok f h1) (aO_ok f h2) (aO_ok f h3))
    · cases hs
  | insert T m k x =>
    rw [hop] at hs; simp only [aAct0] at hs
    split at hs
    · rename_i va vb vc h1 h2 h3
      have he : execOp a.eval o = (do Instr.mapUpdate T (a.eval m) (a.eval k) (a.eval x); pure .skip) := by simp only [execOp, hop]
      rw [he]
      exact .osk hs (fun h' hh => sim_update r hh (aO_ok f h1) (aO_ok f h2) (aO_ok f h3))
    · cases hs
  | mapEntry T m k =>
    rw [hop] at hs; simp only [aAct0] at hs
    split at hs
    · rename_i va vb h1 h2
      have he : execOp a.eval o = (do pure (.value (← Instr.mapEntry T (a.eval m) (a.eval k)))) := by simp only [execOp, hop]
      rw [he]
      exact .ovh hs (fun v h' hh => sim_entry r hh (aO_ok f h1) (aO_ok f h2))
    · cases hs
  | entryStore T m s x =>
    rw [hop] at hs; simp only [aAct0] at hs
    split at hs
    · rename_i va vb vc h1 h2 h3
      have he : execOp a.eval o = (do Instr.entryStore T (a.eval m) (a.eval s) (a.eval x); pure .skip) := by simp only [execOp, hop]
      rw [he]
      exact .osk hs (fun h' hh => sim_estore r hh (aO_ok f h1) (aO_ok f h2) (aO_ok f h3))
    · cases hs
  | range T x =>
    rw [hop] at hs; simp only [aAct0] at hs
    split at hs
    · rename_i va h1
      have he : execOp a.eval o = (do pure (.value (← Instr.range T (a.eval x)))) := by simp only [execOp, hop]
      rw [he]
      exact .ovh hs (fun v h' hh => sim_range r hh (aO_ok f h1))
    · cases hs
  | next it isS =>
    rw [hop] at hs; simp only [aAct0] at hs
    split at hs
    · rename_i va h1
      have he : execOp a.eval o = (do pure (.value (← Instr.next (a.eval it) isS o.type))) := by simp only [execOp, hop]
      rw [he]
      unfold onext at hs
      split at hs
      · rename_i m hm
        cases hs
        obtain ⟨v, h', hmem, hsv⟩ := sim_next (ty := o.type) r hm (aO_ok f h1)
        exact .ofV hsv (List.mem_map.2 ⟨_, hmem, rfl⟩)
      · cases hs
    · cases hs
  | call c =>
    rw [hop] at hs
    obtain ⟨callee, args, Ts⟩ := c
    obtain ⟨args⟩ := args
    obtain ⟨Ts⟩ := Ts
    cases callee with
    | builtin b =>
      simp only [aAct0] at hs
      split at hs
      · rename_i vs hvs
        obtain ⟨cs, hcs⟩ := exec_builtin (ρ := a.eval) hop
        rw [hcs]
        exact sim_builtin r hs (aOs_ok f hvs)
      · cases hs
    | _ => simp [aAct0] at hs
  | _ => rw [hop] at hs; simp [aAct0] at hs
structure AB where
  f : Program → Nat → T Value → AH → Outs
def kAct : Op → AB
  | .store T a x => ⟨fun P n t h => match aO n t a, aO n t x with | some (.pointer (some p)), some v => osk (aStore P T p v h) | _, _ => none⟩
  | .mapUpdate T m k x => ⟨fun P n t h => match aO n t m, aO n t k, aO n t x with | some a, some b, some c => osk (aUpdate P T a b c h) | _, _, _ => none⟩
  | .insert T m k x => ⟨fun P n t h => match aO n t m, aO n t k, aO n t x with | some a, some b, some c => osk (aUpdate P T a b c h) | _, _, _ => none⟩
  | .mapEntry T m k => ⟨fun P n t h => match aO n t m, aO n t k with | some a, some b => ovh (aEntry P T a b h) | _, _ => none⟩
  | .entryStore T m s x => ⟨fun _ n t h => match aO n t m, aO n t s, aO n t x with | some a, some b, some c => osk (aEStore T a b c h) | _, _, _ => none⟩
  | .range T x => ⟨fun P n t h => match aO n t x with | some v => ovh (aRange P T v h) | none => none⟩
  | .next it isS => ⟨fun _ n t h => match aO n t it with | some v => onext (aNext v isS h) | none => none⟩
  | .call ⟨.builtin b, ⟨args⟩, ⟨Ts⟩⟩ => ⟨fun P n t h => match aOs n t args with | some vs => aBuiltin P b Ts vs h | none => none⟩
  | _ => ⟨fun _ _ _ _ => none⟩
def aAct (P : Program) (n : Nat) (t : T Value) (h : AH) (o : Op) : Outs := (kAct o).f P n t h
theorem aAct_eq (o : Op) : aAct P n t h o = aAct0 P n t h o := by
  unfold aAct kAct aAct0
  split <;> rfl
theorem simA (r : R w0 φ h w) {a : Act} (f : FR φ n t a.tmps) {o : Oper} {l : List (AN × AH)} (hs : aAct P n t h o.op = some l) : Sim w0 P φ h w (execOp a.eval o) l := simA0 r f (by rw [← aAct_eq]; exact hs)
end
end Go.X
namespace Go.X
noncomputable section
open Go Go.RowKit
variable {w0 w w' : World} {φ φ' : Phi} {h h' : AH} {P : Program} {n : Nat} {t : T Value}

def joinL {β : Type} (x y : Option (List β)) : Option (List β) := match x, y with
  | some m, some k => some (m ++ k)
  | _, _ => none
def bindL.go {α β : Type} (f : α → Option (List β)) (l : List α) : Option (List β) := List.rec (motive := fun _ => Option (List β)) (some [])
  (fun a l ih => List.rec (motive := fun _ => Option (List β)) (f a) (fun _ _ _ => joinL (f a) ih) l) l
def bindL {α β : Type} (x : Option (List α)) (f : α → Option (List β)) : Option (List β) := Option.rec (motive := fun _ => Option (List β)) none (fun l => bindL.go f l) x
theorem bindL_go {α β : Type} {f : α → Option (List β)} : ∀ {l : List α} {m : List β}, bindL.go f l = some m → ∀ a, a ∈ l → ∃ k, f a = some k ∧ ∀ b, b ∈ k → b ∈ m
  | [], m, _, a, ha => by simp at ha
  | [x], m, h, a, ha => by
    simp at ha; subst ha
    exact ⟨m, h, fun b hb => hb⟩
  | x :: y :: l, m, h, a, ha => by
    have h : joinL (f x) (bindL.go f (y :: l)) = some m := h
    unfold joinL at h
    split at h
    · rename_i m1 k1 h1 h2
      cases h
      rcases List.mem_cons.1 ha with e | e
      · subst e; exact ⟨m1, h1, fun b hb => List.mem_append_left _ hb⟩
      · obtain ⟨k, h3, h4⟩ := bindL_go h2 a e
        exact ⟨k, h3, fun b hb => List.mem_append_right _ (h4 b hb)⟩
    · cases h
theorem bindL_spec {α β : Type} {x : Option (List α)} {f : α → Option (List β)} {m : List β} (h : bindL x f = some m) : ∃ l, x = some l ∧ ∀ a, a ∈ l → ∃ k, f a = some k ∧ ∀ b, b ∈ k → b ∈ m := by
  cases x with
  | none => cases h
  | some l => exact ⟨l, rfl, bindL_go h⟩

/-! Calls. -/
def aCallF (P : Program) (f : FuncId) (args : List Value) (h : AH) : Outs := match P.funcs[f]? with
  | some fn => (match fn.body with
    | some _ => some [(.enter f args, h)]
    | none => none)
  | none => none
/-- No function with a body is the one that counts goroutines. -/
def NoCount (P : Program) : Prop := ∀ (f : FuncId) (fn : Func), P.funcs[f]? = some fn → fn.body.isSome = true → (fn.name == "runtime.NumGoroutine") = false
theorem run_callF (hN : NoCount P) {f : FuncId} {args args' : List Value} {l : List (AN × AH)} (hs : aCallF P f args h = some l) (w : World) : l = [(.enter f args, h)] ∧ (callFunc f ⟨args'⟩).run P w = .ok (.enter f ⟨args'⟩) w := by
  unfold aCallF at hs
  split at hs
  · rename_i fn hf
    split at hs
    · rename_i c hb
      cases hs
      refine ⟨rfl, ?_⟩
      have := hN f fn hf (by rw [hb]; rfl)
      have this : fn.name ≠ "runtime.NumGoroutine" := by simpa using this
      simp [callFunc, hf, this, hb]
    · cases hs
  · cases hs
def setAll : T Value → List Tmp → List Value → T Value
  | t, p :: ps, v :: vs => setAll (t.set p (some v)) ps vs
  | t, _, _ => t
theorem FR.set {a : Array Value} (f : FR φ n t a) {d : Nat} (hd : d < n) {v v' : Value} (hv : VR φ v v') : FR φ n (t.set d (some v)) (a.setIfInBounds d v') := by
  refine ⟨by simp [f.size], f.lt, fun k u hk => ?_⟩
  rw [T.get_set]
  rw [Array.getElem?_setIfInBounds] at hk
  by_cases e : d = k
  · subst e
    rw [if_pos rfl, if_pos (by rw [f.size]; exact hd)] at hk
    cases hk
    rw [if_pos rfl]; exact hv
  · rw [if_neg e] at hk
    rw [if_neg (fun x => e x.symm)]
    exact f.get k u hk
theorem FR.setAll : ∀ {ps : List Tmp} {vs vs' : List Value} {t : T Value} {a : Array Value}, FR φ n t a → ps.all (fun p => decide (p < n)) = true → LR φ vs vs' →
    FR φ n (setAll t ps vs) ((ps.zip vs').foldl (fun tmps p => tmps.setIfInBounds p.1 p.2) a)
  | [], vs, vs', t, a, f, _, _ => by simpa [X.setAll] using f
  | p :: ps, [], vs', t, a, f, _, hv => by cases hv; simpa [X.setAll] using f
  | p :: ps, v :: vs, vs', t, a, f, hp, hv => by
    cases hv with
    | cons h1 h2 =>
      simp only [List.all_cons, Bool.and_eq_true, decide_eq_true_eq] at hp
      simp only [X.setAll, List.zip_cons_cons, List.foldl_cons]
      exact FR.setAll (f.set hp.1 h1) hp.2 h2
def aInvoke (P : Program) (fn : Fn) (cap args : List Value) (h : AH) : Outs := match fn with
  | .func f => aCallF P f (args ++ cap) h
  | .yield l => (match h.m.get l with
    | some (.loop _ _ ts sz ps asg body) => if args.length = ps.length ∧ ps.all (fun p => decide (p < sz)) = true then some [(.round l (setAll ts ps args) sz asg body, h)] else none
    | _ => none)
  | _ => none
theorem run_invoke (hN : NoCount P) (r : R w0 φ h w) {fn fn' : Fn} {cap cap' args args' : List Value} {l : List (AN × AH)} (hs : aInvoke P fn cap args h = some l) (hf : FnR φ fn fn') (hc : LR φ cap cap') (ha : LR φ args args') :
    ∃ an nx, l = [(an, h)] ∧ (invoke (.fn fn' ⟨cap'⟩) ⟨args'⟩).run P w = .ok nx w ∧ NR φ an nx := by
  unfold aInvoke at hs
  split at hs
  · cases hf
    obtain ⟨h1, h2⟩ := run_callF (args' := args' ++ cap') hN hs w
    refine ⟨_, _, h1, ?_, .enter (ha.append hc)⟩
    simp only [invoke]
    have : (⟨args'⟩ ++ ⟨cap'⟩ : Array Value) = ⟨args' ++ cap'⟩ := by apply Array.ext'; simp
    rw [this]; exact h2
  · rename_i b
    cases hf with
    | same hf => exact (hf _ rfl).elim
    | yield i hi =>
      split at hs
      · rename_i st pend ts sz ps asg body ho
        split at hs
        · rename_i hl
          cases hs
          obtain ⟨fn0, arr, df, hw, hfr⟩ := r.dom _ _ _ hi ho
          have hsz : (⟨args'⟩ : Array Value).size = (⟨ps⟩ : Array Tmp).size := by simp [← ha.length, hl.1]
          have := run_yield (P := P) (args := ⟨args'⟩) hw hsz
          refine ⟨_, _, rfl, by simp only [invoke]; exact this, .round hi ?_⟩
          have := FR.setAll hfr hl.2 ha
          have e : (((⟨ps⟩ : Array Tmp).zip ⟨args'⟩).foldl (fun tmps (x : Tmp × Value) => tmps.setIfInBounds x.1 x.2) arr) = ((ps.zip args').foldl (fun tmps p => tmps.setIfInBounds p.1 p.2) arr) := by
            rw [← Array.foldl_toList, Array.toList_zip]
          rw [← e] at this
          exact this
        · cases hs
      · cases hs
  · cases hs
def aMethod (P : Program) (ty : TypeId) (v : Value) (name : String) : Option (FuncId × Value) := match P.info? ty with
  | some i => (match i.methods.find? (·.name == name) with
    | some m => if m.path.isEmpty then (match m.func, P.underlying ty with
        | some (f, true), some (.pointer _) => some (f, v)
        | some (_, false), some (.pointer _) => none
        | some (f, false), some _ => some (f, v)
        | _, _ => none) else none
    | none => none)
  | none => none
theorem run_method {ty : TypeId} {v v' : Value} {name : String} {f : FuncId} {u : Value} (hs : aMethod P ty v name = some (f, u)) (k : Nat) (w : World) : u = v ∧ (method (k + 1) ty v' name).run P w = .ok (f, v') w := by
  unfold aMethod at hs
  split at hs
  · rename_i i hi
    split at hs
    · rename_i m hm
      split at hs
      · rename_i hp
        have hpath : m.path.toList = [] := by
          have : m.path.size = 0 := by rw [Array.isEmpty_iff_size_eq_zero] at hp; exact hp
          exact List.eq_nil_of_length_eq_zero (by rw [Array.length_toList]; exact this)
        split at hs
        · rename_i f' el hfu hu
          cases hs
          refine ⟨rfl, ?_⟩
          simp only [method, Sem.run_bind, rI hi, Result.andThen_ok, hm, hpath, follow, Sem.run_pure, hfu, receiverAt, run_underlying hu, Place.get]
        · cases hs
        · rename_i f' d hd hfu hu
          cases hs
          refine ⟨rfl, ?_⟩
          cases d <;> first | exact (hd _ rfl).elim | simp only [method, Sem.run_bind, rI hi, Result.andThen_ok, hm, hpath, follow, Sem.run_pure, hfu, receiverAt, run_underlying hu, Place.get]
        · cases hs
      · cases hs
    · cases hs
  · cases hs
def aCallO (P : Program) (n : Nat) (t : T Value) (h : AH) : Op → Outs
  | .call ⟨.value f, ⟨args⟩, _⟩ => match aO n t f, aOs n t args with
    | some (.func fn ⟨first⟩ ⟨cap⟩), some vs => aInvoke P fn cap (first ++ vs) h
    | _, _ => none
  | .call ⟨.invoke recv name, ⟨args⟩, _⟩ => match aO n t recv, aOs n t args with
    | some (.iface ty v), some vs => (match aMethod P ty v name with
      | some (f, _) => aCallF P f (v :: vs) h
      | none => none)
    | _, _ => none
  | _ => none
theorem simC (hN : NoCount P) (r : R w0 φ h w) {a : Act} (f : FR φ n t a.tmps) {o : Oper} {l : List (AN × AH)} (hs : aCallO P n t h o.op = some l) : Sim w0 P φ h w (execOp a.eval o) l := by
  cases hop : o.op with
  | call c =>
    rw [hop] at hs
    obtain ⟨callee, args, Ts⟩ := c
    obtain ⟨args⟩ := args
    cases callee with
    | value fv =>
      simp only [aCallO] at hs
      split at hs
      · rename_i fn first cap vs hfv hvs
        have h1 := aO_ok f hfv
        have h2 := aOs_ok f hvs
        generalize hev : a.eval fv = u at h1
        cases h1 with
        | @func _ fn' _ _ first' cap' hfn ha hb h3 h4 =>
          obtain ⟨an, nx, rfl, hrun, hnr⟩ := run_invoke hN r hs hfn (LR.of hb h4) ((LR.of ha h3).append h2)
          refine ⟨an, h, List.mem_singleton.2 rfl, nx, w, φ, ?_, .refl φ h, r, hnr⟩
          have e1 : (⟨first'⟩ ++ ⟨args.map a.eval⟩ : Array Value) = ⟨first' ++ args.map a.eval⟩ := by apply Array.ext'; simp
          simp only [execOp, hop, resolve, hev, Deferred.ofValue, Sem.run_bind, Sem.run_pure, Result.andThen_ok, amap, e1]
          exact hrun
      · cases hs
    | invoke recv name =>
      simp only [aCallO] at hs
      split at hs
      · rename_i ty v vs hrv hvs
        have h1 := aO_ok f hrv
        have h2 := aOs_ok f hvs
        generalize hev : a.eval recv = u at h1
        cases h1 with
        | @iface _ _ v' h1 =>
          split at hs
          · rename_i f' u hm
            obtain ⟨rfl, hmr⟩ := run_method (v' := v') hm (P.types.size + Made.depth - 1) w
            obtain ⟨h5, h6⟩ := run_callF (args' := v' :: args.map a.eval) hN hs w
            subst h5
            refine ⟨_, h, List.mem_singleton.2 rfl, .enter f' ⟨v' :: args.map a.eval⟩, w, φ, ?_, .refl φ h, r, .enter (.cons h1 h2)⟩
            have e0 : P.types.size + Made.depth - 1 + 1 = P.types.size + Made.depth := by
              have : 0 < Made.depth := by decide
              omega
            rw [e0] at hmr
            have e1 : (#[Value.iface ty v'] ++ ⟨args.map a.eval⟩ : Array Value) = ⟨Value.iface ty v' :: args.map a.eval⟩ := by apply Array.ext'; simp
            have e2 : (⟨Value.iface ty v' :: args.map a.eval⟩ : Array Value).extract 1 (⟨Value.iface ty v' :: args.map a.eval⟩ : Array Value).size = ⟨args.map a.eval⟩ := by
              apply Array.ext'; simp
              exact List.take_of_length_le (by simp)
            have e3 : (#[v'] ++ ⟨args.map a.eval⟩ : Array Value) = ⟨v' :: args.map a.eval⟩ := by apply Array.ext'; simp
            simp only [execOp, hop, resolve, hev, Sem.run_bind, Sem.run_pure, Result.andThen_ok, amap, e1, invoke]
            have e4 : (⟨Value.iface ty v' :: args.map a.eval⟩ : Array Value)[0]? = some (Value.iface ty v') := by simp
            simp only [e4, e2, callMethod, Sem.run_bind, program]
            show ((Sem.run P (Sem.program Sem.pure) w).andThen _) = _
            simp only [Sem.run, Result.andThen_ok, hmr, e3]
            exact h6
          · cases hs
      · cases hs
    | builtin b => simp [aCallO] at hs
  | _ => rw [hop] at hs; simp [aCallO] at hs

/-- An operation, up to the call that it makes. -/
def kOp : Op → Nat
  | .alloc _ | .box _ _ | .buildSlice _ _ _ | .makeSlice _ _ _ | .makeMap _ _ => 0
  | .store _ _ _ | .mapUpdate _ _ _ _ | .insert _ _ _ _ | .mapEntry _ _ _ | .entryStore _ _ _ _ | .range _ _ | .next _ _ => 2
  | .call ⟨.value _, _, _⟩ | .call ⟨.invoke _ _, _, _⟩ => 3
  | .call _ => 4
  | _ => 1
def aOp (P : Program) (n : Nat) (t : T Value) (h : AH) (o : Op) : Outs := match kOp o with
  | 0 => (match aAl P n t o with
    | some p => aNew (some p) h
    | none => none)
  | 1 => (match aVal P n t h o with
    | some v => some [(.val v, h)]
    | none => none)
  | 2 => aAct P n t h o
  | 3 => aCallO P n t h o
  | _ => (match aVal P n t h o with
    | some v => some [(.val v, h)]
    | none => aAct P n t h o)
theorem R.newAl (r : R w0 φ h w) {al : Al} {mk : Mk} {x : Obj} {b : Nat} (hs : h.newAl al = some (b, h')) (hk : al.ok mk = true) (ha : AlR φ al x) :
    ∃ φ', Nx φ φ' h h' ∧ φ' b = some (al.im w.heap.size) ∧ R w0 φ' h' (w.alloc x) := by
  unfold AH.newAl at hs
  split at hs
  · rename_i hn
    cases hs
    have hc : (al.im w.heap.size).c = w.heap.size := by cases al <;> rfl
    obtain ⟨φ', le, h1, h2, h3⟩ := r.new (i := al.im w.heap.size) (o := al.obj) (x := x) hc trivial (fun φ' w' le hw => AlR.or hk ha le (by rw [← hc]; exact hw))
    exact ⟨φ', .new le h3 trivial, h1, h2⟩
  · cases hs
theorem sim_op (hN : NoCount P) (r : R w0 φ h w) {a : Act} (f : FR φ n t a.tmps) {o : Oper} {l : List (AN × AH)} (hs : aOp P n t h o.op = some l) : Sim w0 P φ h w (execOp a.eval o) l := by
  have hal : ∀ {l : List (AN × AH)}, (match aAl P n t o.op with | some p => aNew (some p) h | none => none) = some l → Sim w0 P φ h w (execOp a.eval o) l := by
    intro l hs
    split at hs
    · rename_i p hp
      obtain ⟨al, mk⟩ := p
      obtain ⟨hk, x, hx, hrun⟩ := al_run f hp
      unfold aNew at hs
      dsimp only at hs
      split at hs
      · rename_i b h1 hn
        cases hs
        obtain ⟨φ', nx, hb, r'⟩ := r.newAl hn hk hx
        exact ⟨_, _, List.mem_singleton.2 rfl, _, _, φ', hrun w, nx, r', .val (Mk.rel hk hb)⟩
      · cases hs
    · cases hs
  have hvl : ∀ {v : Value}, aVal P n t h o.op = some v → Sim w0 P φ h w (execOp a.eval o) [(.val v, h)] := by
    intro v hv
    obtain ⟨nx, w', φ', h1, h2, h3, h4⟩ := simN r f hv
    exact ⟨_, _, List.mem_singleton.2 rfl, nx, w', φ', h1, h2, h3, h4⟩
  unfold aOp at hs
  split at hs
  · exact hal hs
  · split at hs
    · rename_i v hv
      cases hs; exact hvl hv
    · cases hs
  · exact simA r f hs
  · exact simC hN r f hs
  · split at hs
    · rename_i v hv
      cases hs; exact hvl hv
    · exact simA r f hs
theorem aOp_defer {c : Call} {l : List (AN × AH)} (hs : aOp P n t h (.defer c) = some l) : False := by
  simp [aOp, kOp, aVal_eq, aVal0] at hs
end
end Go.X
namespace Go.X
noncomputable section
open Go Go.RowKit
variable {w0 w w' : World} {φ φ' : Phi} {h h' : AH} {P : Program} {n : Nat} {t : T Value}

/-- The fence of a frame: of a function (none), or of a round of a loop. -/
def FW : Option Nat → Fence
  | none => Fence.wide
  | some l => Fence.wide.inRound l
theorem FW_fn (q : Option Nat) (f : FuncId) : (FW q).fn f := by cases q <;> trivial
theorem FW_depth (q : Option Nat) : (FW q).depth = none := by cases q <;> rfl
theorem FW_round (q : Option Nat) : (FW q).round = q := by cases q <;> rfl
theorem FW_calls {q : Option Nat} {m : Nat} {f : FuncId} {args : Array Value} {R : Ending → World → Prop} (hc : Calls P f args w R) : CallsIn (FW q) m P f args w R := by
  have h1 : CallsIn Fence.wide m P f args w R := callsIn_wide.2 hc
  cases q with
  | none => exact h1
  | some l => exact h1
theorem FW_roundIn {q : Option Nat} {m l : Nat} {f : FuncId} {tmps : Array Value} {asg body : Code} {R : Ending → World → Prop} (hc : RoundIn Fence.wide m P l f tmps asg body w R) : RoundIn (FW q) m P l f tmps asg body w R := by
  cases q with
  | none => exact hc
  | some k => exact hc

abbrev Call1 := AN → AH → Option (List (Value × AH))
/-- What is asked of the evaluation of calls. -/
def CallsOk (w0 : World) (P : Program) (call : Call1) : Prop :=
  ∀ (an : AN) (h : AH) (l : List (Value × AH)) (φ : Phi) (w : World) (nx : Next), call an h = some l → R w0 φ h w → NR φ an nx →
    let post : Ending → World → Prop := fun e w' => ∃ v', e = .returned v' ∧ ∃ v h', (v, h') ∈ l ∧ ∃ φ', Nx φ φ' h h' ∧ R w0 φ' h' w' ∧ VR φ' v v'
    (∀ f args, nx = .enter f args → Calls P f args w post) ∧
    (∀ b f tmps asg body, nx = .round b f tmps asg body → ∀ m, RoundIn Fence.wide m P b f tmps asg body w post)
def aStep (P : Program) (call : Call1) (n : Nat) (t : T Value) (h : AH) (o : Op) : Option (List (Value × AH)) := bindL (aOp P n t h o) fun p => match p with
  | (.val v, h') => some [(v, h')]
  | (.skip, h') => some [(undef, h')]
  | (an, h') => call an h'
theorem step_ok (hN : NoCount P) {call : Call1} (hc : CallsOk w0 P call) (r : R w0 φ h w) {a : Act} (f : FR φ n t a.tmps) {o : Oper} {l : List (Value × AH)} (hs : aStep P call n t h o.op = some l) {q : Option Nat} {m : Nat}
    {K : Act → World → Prop} {Q : Exit → Act → World → Prop} (hK : ∀ v h' v' w' φ', (v, h') ∈ l → Nx φ φ' h h' → R w0 φ' h' w' → VR φ' v v' → K (a.put o.dst v') w') : o.wpIn (FW q) m P a w K Q := by
  refine ⟨fun f _ => FW_fn q f, ?_⟩
  obtain ⟨l0, h0, hall⟩ := bindL_spec hs
  have hnd : ∀ c, o.op ≠ .defer c := fun c e => by rw [e] at h0; exact aOp_defer h0
  rw [FW_round, Oper.semAt_eq _ _ _ hnd]
  obtain ⟨an, h1, hm, nx, w1, φ1, hrun, nx1, r1, hnr⟩ := sim_op hN r f h0
  obtain ⟨k, hk, hsub⟩ := hall _ hm
  rw [hrun]
  have dep : (FW q).depth.isSome = true → 1 ≤ m := by rw [FW_depth]; intro x; cases x
  cases hnr with
  | val hv =>
    simp only at hk; cases hk
    exact hK _ _ _ _ φ1 (hsub _ (List.mem_singleton.2 rfl)) nx1 r1 hv
  | skip =>
    simp only at hk; cases hk
    exact hK _ _ _ _ φ1 (hsub _ (List.mem_singleton.2 rfl)) nx1 r1 .undef
  | enter hl =>
    have := (hc _ _ _ _ _ _ hk r1 (.enter hl)).1 _ _ rfl
    refine ⟨dep, FW_calls (this.mono ?_)⟩
    rintro e w2 ⟨v', rfl, v, h2, hmem, φ2, nx2, r2, hv⟩
    exact hK _ _ _ _ φ2 (hsub _ hmem) (nx1.trans nx2) r2 hv
  | @round b i ts sz asg body fn arr hb hf =>
    have := (hc _ _ _ _ _ _ hk r1 (.round (fn := fn) hb hf)).2 _ _ _ _ _ rfl (m - 1)
    refine ⟨dep, FW_roundIn (this.mono ?_)⟩
    rintro e w2 ⟨v', rfl, v, h2, hmem, φ2, nx2, r2, hv⟩
    exact hK _ _ _ _ φ2 (hsub _ hmem) (nx1.trans nx2) r2 hv

/-! Guards. -/
def aYd (n : Nat) (t : T Value) (ops : Array Oper) (j : Nat) : Option Bool := match ops[j]? with
  | some o => (match o.dst with
    | some d => if d < n then (match t.get d with
      | some (.bool b) => some b
      | _ => none) else none
    | none => none)
  | none => none
theorem yd_ok {a : Array Value} (f : FR φ n t a) (ops : Array Oper) (j : Nat) : yielded ops a j = aYd n t ops j := by
  unfold yielded aYd
  cases ho : ops[j]? with
  | none => rfl
  | some o =>
    simp only [Option.bind_some]
    cases hd : o.dst with
    | none => rfl
    | some d =>
      simp only [Option.bind_some]
      by_cases hlt : d < n
      · rw [if_pos hlt]
        have h1 : a[d]? = some (a.getD d Go.undef) := by
          rw [Array.getD_eq_getD_getElem?, Array.getElem?_eq_getElem (by rw [f.size]; exact hlt)]; simp
        have h2 := f.at d hlt
        rw [h1]
        generalize a.getD d Go.undef = u at h2
        cases hg : t.get d with
        | none =>
          rw [hg] at h2
          simp only [Option.getD_none] at h2
          obtain ⟨l', rfl, _⟩ := VR.tuple_inv (l := []) h2
          rfl
        | some v =>
          rw [hg] at h2
          simp only [Option.getD_some] at h2
          cases h2 <;> rfl
      · rw [if_neg hlt]
        have h9 : a[d]? = none := Array.getElem?_eq_none (Nat.le_trans (Nat.le_of_eq f.size) (Nat.le_of_not_lt hlt))
        rw [h9]
def aWant (n : Nat) (t : T Value) (ops : Array Oper) (o : Oper) : Bool := match o.guard with
  | none => true
  | some (j, b) => (match aYd n t ops j with
    | some c => c == b
    | none => false)
theorem want_ok {a : Array Value} (f : FR φ n t a) (ops : Array Oper) (o : Oper) : Region.wanted o (yielded ops a) = aWant n t ops o := by
  unfold Region.wanted aWant
  cases o.guard with
  | none => rfl
  | some p =>
    obtain ⟨j, b⟩ := p
    dsimp only
    rw [yd_ok f]
    cases aYd n t ops j with
    | none => rfl
    | some c => cases c <;> cases b <;> rfl
def aPut (n : Nat) (t : T Value) (d : Option Tmp) (v : Value) : Option (T Value) := Option.rec (motive := fun _ => Option (T Value)) (some t)
  (fun d => Bool.rec (motive := fun _ => Option (T Value)) (some (t.set d (some v))) none (Nat.ble n d)) d
theorem aPut_eq (n : Nat) (t : T Value) (d : Option Tmp) (v : Value) : aPut n t d v = match d with
  | none => some t
  | some d => if d < n then some (t.set d (some v)) else none := by
  cases d with
  | none => rfl
  | some d =>
    show Bool.rec (motive := fun _ => Option (T Value)) _ _ (Nat.ble n d) = _
    cases hb : Nat.ble n d with
    | true =>
      have : ¬ d < n := Nat.not_lt.2 (Nat.le_of_ble_eq_true hb)
      simp [this]
    | false =>
      have : d < n := Nat.lt_of_not_le (fun hle => by rw [Nat.ble_eq_true_of_le hle] at hb; cases hb)
      simp [this]
theorem put_ok {a : Act} (f : FR φ n t a.tmps) {d : Option Tmp} {v v' : Value} {t' : T Value} (hs : aPut n t d v = some t') (hv : VR φ v v') : FR φ n t' (a.put d v').tmps ∧ (a.put d v').defers = a.defers := by
  rw [aPut_eq] at hs
  cases d with
  | none => cases hs; exact ⟨f, rfl⟩
  | some d =>
    dsimp only at hs
    split at hs
    · cases hs; exact ⟨f.set ‹_› hv, rfl⟩
    · cases hs

/-! A region whose order is given. -/
def aOps0 (P : Program) (call : Call1) (n : Nat) (ops : Array Oper) : List Nat → T Value → AH → Option (List (T Value × AH))
  | [], t, h => some [(t, h)]
  | i :: r, t, h => match ops[i]? with
    | none => none
    | some o => if aWant n t ops o then bindL (aStep P call n t h o.op) fun p => (match aPut n t o.dst p.1 with
        | some t' => aOps0 P call n ops r t' p.2
        | none => none)
      else (match aPut n t o.dst undef with
        | some t' => aOps0 P call n ops r t' h
        | none => none)
theorem ops_ok0 (hN : NoCount P) {call : Call1} (hc : CallsOk w0 P call) {ops : Array Oper} {q : Option Nat} {m : Nat} {Q : Exit → Act → World → Prop} : ∀ (r : List Nat) {t : T Value} {h : AH} {l : List (T Value × AH)} {φ : Phi} {a : Act} {w : World},
    aOps0 P call n ops r t h = some l → R w0 φ h w → FR φ n t a.tmps →
    (∀ t' h' φ' a' w', (t', h') ∈ l → Nx φ φ' h h' → R w0 φ' h' w' → FR φ' n t' a'.tmps → a'.defers = a.defers → Q .normal a' w') → wpOpsIn (FW q) m P ops Q r a w
  | [], t, h, l, φ, a, w, hs, hr, hf, hQ => by
    simp only [aOps0] at hs; cases hs
    exact hQ _ _ φ _ _ (List.mem_singleton.2 rfl) (.refl φ h) hr hf rfl
  | i :: r, t, h, l, φ, a, w, hs, hr, hf, hQ => by
    simp only [aOps0] at hs
    simp only [wpOpsIn]
    cases ho : ops[i]? with
    | none => rw [ho] at hs; cases hs
    | some o =>
      rw [ho] at hs
      dsimp only at hs ⊢
      rw [want_ok hf]
      split at hs
      · rename_i hw
        rw [if_pos hw]
        obtain ⟨l0, h0, hall⟩ := bindL_spec hs
        refine step_ok hN hc hr hf h0 ?_
        intro v h1 v' w1 φ1 hm nx1 r1 hv
        obtain ⟨k, hk, hsub⟩ := hall _ hm
        dsimp only at hk
        split at hk
        · rename_i t1 ht
          obtain ⟨f1, d1⟩ := put_ok (hf.mono nx1.le) ht hv
          refine ops_ok0 hN hc r hk r1 f1 (fun t' h' φ' a' w' hm' nx' r' f' d' => hQ t' h' φ' a' w' (hsub _ hm') (nx1.trans nx') r' f' (d'.trans d1))
        · cases hk
      · rename_i hw
        rw [if_neg hw]
        split at hs
        · rename_i t1 ht
          obtain ⟨f1, d1⟩ := put_ok hf ht .undef
          refine ⟨fun f _ => FW_fn q f, ops_ok0 hN hc r hs hr f1 (fun t' h' φ' a' w' hm' nx' r' f' d' => hQ t' h' φ' a' w' hm' nx' r' f' (d'.trans d1))⟩
        · cases hs
def opsStep (P : Program) (call : Call1) (n : Nat) (ops : Array Oper) (o : Oper) (ih : T Value → AH → Option (List (T Value × AH))) (t : T Value) (h : AH) : Option (List (T Value × AH)) :=
  Bool.rec (motive := fun _ => Option (List (T Value × AH)))
    (Option.rec (motive := fun _ => Option (List (T Value × AH))) none (fun t' => ih t' h) (aPut n t o.dst undef))
    (bindL (aStep P call n t h o.op) fun p => Option.rec (motive := fun _ => Option (List (T Value × AH))) none (fun t' => ih t' p.2) (aPut n t o.dst p.1)) (aWant n t ops o)
def aOps (P : Program) (call : Call1) (n : Nat) (ops : Array Oper) (l : List Oper) : T Value → AH → Option (List (T Value × AH)) :=
  List.rec (motive := fun _ => T Value → AH → Option (List (T Value × AH))) (fun t h => some [(t, h)]) (fun o _ ih => opsStep P call n ops o ih) l
theorem aOps_eq {call : Call1} {ops : Array Oper} : ∀ {l : List Oper} {r : List Nat}, r.map (fun i => ops[i]?) = l.map some → ∀ t h, aOps P call n ops l t h = aOps0 P call n ops r t h
  | [], [], _, t, h => rfl
  | [], _ :: _, hm, _, _ => by simp at hm
  | _ :: _, [], hm, _, _ => by simp at hm
  | o :: l, i :: r, hm, t, h => by
    simp only [List.map_cons, List.cons.injEq] at hm
    have ih : ∀ t h, aOps P call n ops l t h = aOps0 P call n ops r t h := aOps_eq hm.2
    show opsStep P call n ops o (aOps P call n ops l) t h = _
    simp only [aOps0, hm.1]
    unfold opsStep
    cases hw : aWant n t ops o with
    | true =>
      simp only [if_true]
      congr 1
      funext p
      cases aPut n t o.dst p.1 with
      | none => rfl
      | some t' => exact ih t' p.2
    | false =>
      simp only [Bool.false_eq_true, if_false]
      cases aPut n t o.dst undef with
      | none => rfl
      | some t' => exact ih t' h
theorem range_all (ops : Array Oper) : (List.range ops.size).map (fun i => ops[i]?) = ops.toList.map some := by
  apply List.ext_getElem?
  intro i
  simp only [List.getElem?_map, Array.getElem?_toList]
  by_cases hi : i < ops.size
  · simp [hi]
  · simp [hi]
theorem ops_ok (hN : NoCount P) {call : Call1} (hc : CallsOk w0 P call) {ops : Array Oper} {q : Option Nat} {m : Nat} {Q : Exit → Act → World → Prop} {t : T Value} {h : AH} {l : List (T Value × AH)} {φ : Phi} {a : Act} {w : World}
    (hs : aOps P call n ops ops.toList t h = some l) (r : R w0 φ h w) (f : FR φ n t a.tmps)
    (hQ : ∀ t' h' φ' a' w', (t', h') ∈ l → Nx φ φ' h h' → R w0 φ' h' w' → FR φ' n t' a'.tmps → a'.defers = a.defers → Q .normal a' w') : wpOpsIn (FW q) m P ops Q (List.range ops.size) a w :=
  ops_ok0 hN hc _ (by rw [← aOps_eq (range_all ops)]; exact hs) r f hQ
end
end Go.X
namespace Go.X
noncomputable section
open Go Go.RowKit
variable {w0 w w' : World} {φ φ' : Phi} {h h' : AH} {P : Program} {n : Nat} {t t' : T Value}

def vt (t : T Value) (s : Nat) : Value := (t.get s).getD undef
def opsL : Op → List Operand
  | .move x | .assign x | .box _ x | .load _ x | .nilCheck x | .unOp _ _ x | .convert _ _ x | .makeInterface _ x | .fieldAddr _ x _ | .field _ x _ | .range _ x | .next x _ | .entry x | .typeAssert x _ _ _ | .extract x _ => [x]
  | .pick c a b => [c, a, b]
  | .build _ ⟨ps⟩ | .buildSlice _ _ ⟨ps⟩ => ps.map (·.2)
  | .store _ a v | .binOp _ _ a v _ | .makeSlice _ a v | .indexAddr _ a v | .index _ a v | .lookup _ a v _ | .mapEntry _ a v => [a, v]
  | .makeFunc _ ⟨l⟩ ⟨m⟩ => l ++ m
  | .makeMap _ r => r.toList
  | .slice _ x l h m => x :: (l.toList ++ h.toList ++ m.toList)
  | .mapUpdate _ m k v | .entryStore _ m k v | .insert _ m k v => [m, k, v]
  | .call ⟨.value f, ⟨args⟩, _⟩ => f :: args
  | .call ⟨.invoke r _, ⟨args⟩, _⟩ => r :: args
  | .call ⟨.builtin _, ⟨args⟩, _⟩ => args
  | _ => []
def slots (o : Op) : List Nat := (opsL o).filterMap fun | .tmp k => some k | _ => none
theorem aO_congr {x : Operand} (hx : ∀ k, x = .tmp k → k < n → vt t k = vt t' k) : aO n t x = aO n t' x := by
  rw [aO_eq, aO_eq]
  cases x with
  | tmp k =>
    by_cases hk : k < n
    · have := hx k rfl hk; unfold vt at this; simp only [aEv, this]
    · simp [opnOk, hk]
  | _ => rfl
theorem slots_aO {o : Op} (hs : ∀ s, s ∈ slots o → s < n → vt t s = vt t' s) : ∀ x, x ∈ opsL o → aO n t x = aO n t' x := by
  intro x hx
  refine aO_congr (fun k e hk => hs k ?_ hk)
  subst e
  exact List.mem_filterMap.2 ⟨_, hx, rfl⟩
theorem aOs_congr : ∀ {l : List Operand}, (∀ x, x ∈ l → aO n t x = aO n t' x) → aOs n t l = aOs n t' l
  | [], _ => rfl
  | x :: l, h => by simp only [aOs]; rw [h x (by simp), aOs_congr (fun y hy => h y (by simp [hy]))]
theorem aPs_congr : ∀ {l : List (Nat × Operand)}, (∀ x, x ∈ l.map (·.2) → aO n t x = aO n t' x) → aPs n t l = aPs n t' l
  | [], _ => rfl
  | (i, x) :: l, h => by simp only [aPs]; rw [h x (by simp), aPs_congr (fun y hy => h y (by simp at hy ⊢; exact .inr hy))]
theorem aOO_congr {x : Option Operand} (h : ∀ y, y ∈ x.toList → aO n t y = aO n t' y) : aOO n t x = aOO n t' x := by
  cases x with
  | none => rfl
  | some y => simp only [aOO]; rw [h y (by simp)]
theorem aAl_congr {o : Op} (hs : ∀ s, s ∈ slots o → s < n → vt t s = vt t' s) : aAl P n t o = aAl P n t' o := by
  have hx := slots_aO (n := n) hs
  unfold aAl
  have : aAl0 P n t o = aAl0 P n t' o := by
    cases o with
    | box el x => simp only [aAl0]; rw [hx x (by simp [opsL])]
    | buildSlice T len ps => obtain ⟨ps⟩ := ps; simp only [aAl0]; rw [aPs_congr (fun y hy => hx y hy)]
    | makeSlice T l c => simp only [aAl0]; rw [hx l (by simp [opsL]), hx c (by simp [opsL])]
    | makeMap T r => cases r with
      | none => rfl
      | some x => simp only [aAl0]; rw [hx x (by simp [opsL])]
    | _ => rfl
  rw [this]
theorem aVal0_congr {o : Op} (hs : ∀ s, s ∈ slots o → s < n → vt t s = vt t' s) : aVal0 P n t h o = aVal0 P n t' h o := by
  have hx := slots_aO (n := n) hs
  cases o with
  | move x => simp only [aVal0]; rw [hx x (by simp [opsL])]
  | assign x => simp only [aVal0]; rw [hx x (by simp [opsL])]
  | pick c a b =>
    simp only [aVal0]; rw [hx c (by simp [opsL])]
    split
    · rename_i q _
      cases q
      · exact hx b (by simp [opsL])
      · exact hx a (by simp [opsL])
    · rfl
  | build T ps => obtain ⟨ps⟩ := ps; simp only [aVal0]; rw [aPs_congr (fun y hy => hx y hy)]
  | load T x => simp only [aVal0]; rw [hx x (by simp [opsL])]
  | nilCheck x => simp only [aVal0]; rw [hx x (by simp [opsL])]
  | binOp op T x y yt => simp only [aVal0]; rw [hx x (by simp [opsL]), hx y (by simp [opsL])]
  | unOp op T x => simp only [aVal0]; rw [hx x (by simp [opsL])]
  | convert s d x => simp only [aVal0]; rw [hx x (by simp [opsL])]
  | makeInterface T x => simp only [aVal0]; rw [hx x (by simp [opsL])]
  | makeFunc fn l m =>
    obtain ⟨l⟩ := l; obtain ⟨m⟩ := m
    cases fn with
    | func k => simp only [aVal0]; rw [aOs_congr (fun y hy => hx y (by simp [opsL, hy])), aOs_congr (l := m) (fun y hy => hx y (by simp [opsL, hy]))]
    | _ => rfl
  | slice T x lo hi mx =>
    simp only [aVal0]
    rw [hx x (by simp [opsL]), aOO_congr (x := lo) (fun y hy => hx y (by simp only [opsL, List.mem_cons, List.mem_append]; exact .inr (.inl (.inl hy)))),
      aOO_congr (x := hi) (fun y hy => hx y (by simp only [opsL, List.mem_cons, List.mem_append]; exact .inr (.inl (.inr hy)))), aOO_congr (x := mx) (fun y hy => hx y (by simp only [opsL, List.mem_cons, List.mem_append]; exact .inr (.inr hy)))]
  | fieldAddr s x f => simp only [aVal0]; rw [hx x (by simp [opsL])]
  | field T x f => simp only [aVal0]; rw [hx x (by simp [opsL])]
  | indexAddr T x i => simp only [aVal0]; rw [hx x (by simp [opsL]), hx i (by simp [opsL])]
  | index T x i => simp only [aVal0]; rw [hx x (by simp [opsL]), hx i (by simp [opsL])]
  | lookup T x k c => simp only [aVal0]; rw [hx x (by simp [opsL]), hx k (by simp [opsL])]
  | typeAssert x xT T c => simp only [aVal0]; rw [hx x (by simp [opsL])]
  | extract x i => simp only [aVal0]; rw [hx x (by simp [opsL])]
  | entry it => simp only [aVal0]; rw [hx it (by simp [opsL])]
  | call c =>
    obtain ⟨callee, args, Ts⟩ := c
    obtain ⟨args⟩ := args
    obtain ⟨Ts⟩ := Ts
    cases callee with
    | builtin b =>
      have hargs : ∀ y, y ∈ args → aO n t y = aO n t' y := fun y hy => hx y (by simpa [opsL] using hy)
      match args, Ts, hargs with
      | [x], [T], hargs => cases b <;> first | rfl | (simp only [aVal0]; rw [hargs x (by simp)])
      | [], _, _ => cases b <;> rfl
      | [_], [], _ => cases b <;> rfl
      | [_], _ :: _ :: _, _ => cases b <;> rfl
      | _ :: _ :: _, _, _ => cases b <;> rfl
    | _ => rfl
  | _ => rfl
theorem aVal_congr {o : Op} (hs : ∀ s, s ∈ slots o → s < n → vt t s = vt t' s) : aVal P n t h o = aVal P n t' h o := by
  rw [aVal_eq, aVal_eq]; exact aVal0_congr hs
theorem aAct0_congr {o : Op} (hs : ∀ s, s ∈ slots o → s < n → vt t s = vt t' s) : aAct0 P n t h o = aAct0 P n t' h o := by
  have hx := slots_aO (n := n) hs
  cases o with
  | store T a x => simp only [aAct0]; rw [hx a (by simp [opsL]), hx x (by simp [opsL])]
  | mapUpdate T m k x => simp only [aAct0]; rw [hx m (by simp [opsL]), hx k (by simp [opsL]), hx x (by simp [opsL])]
  | insert T m k x => simp only [aAct0]; rw [hx m (by simp [opsL]), hx k (by simp [opsL]), hx x (by simp [opsL])]
  | mapEntry T m k => simp only [aAct0]; rw [hx m (by simp [opsL]), hx k (by simp [opsL])]
  | entryStore T m k x => simp only [aAct0]; rw [hx m (by simp [opsL]), hx k (by simp [opsL]), hx x (by simp [opsL])]
  | range T x => simp only [aAct0]; rw [hx x (by simp [opsL])]
  | next it b => simp only [aAct0]; rw [hx it (by simp [opsL])]
  | call c =>
    obtain ⟨callee, args, Ts⟩ := c
    obtain ⟨args⟩ := args
    obtain ⟨Ts⟩ := Ts
    cases callee with
    | builtin b =>
      simp only [aAct0]; rw [aOs_congr (fun y hy => hx y (by simpa [opsL] using hy))]
    | _ => rfl
  | _ => rfl
theorem aAct_congr {o : Op} (hs : ∀ s, s ∈ slots o → s < n → vt t s = vt t' s) : aAct P n t h o = aAct P n t' h o := by
  rw [aAct_eq, aAct_eq]; exact aAct0_congr hs
theorem aCallO_congr {o : Op} (hs : ∀ s, s ∈ slots o → s < n → vt t s = vt t' s) : aCallO P n t h o = aCallO P n t' h o := by
  have hx := slots_aO (n := n) hs
  cases o with
  | call c =>
    obtain ⟨callee, args, Ts⟩ := c
    obtain ⟨args⟩ := args
    cases callee with
    | value f => simp only [aCallO]; rw [hx f (by simp [opsL]), aOs_congr (fun y hy => hx y (by simp [opsL, hy]))]
    | invoke r nm => simp only [aCallO]; rw [hx r (by simp [opsL]), aOs_congr (fun y hy => hx y (by simp [opsL, hy]))]
    | builtin b => rfl
  | _ => rfl
theorem aOp_congr {o : Op} (hs : ∀ s, s ∈ slots o → s < n → vt t s = vt t' s) : aOp P n t h o = aOp P n t' h o := by
  unfold aOp
  rw [aAl_congr hs, aVal_congr hs, aAct_congr hs, aCallO_congr hs]
theorem aStep_congr {call : Call1} {o : Op} (hs : ∀ s, s ∈ slots o → s < n → vt t s = vt t' s) : aStep P call n t h o = aStep P call n t' h o := by
  unfold aStep; rw [aOp_congr hs]
/-- The slot that a guard looks at. -/
def gslot (ops : Array Oper) (o : Oper) : Option Nat := match o.guard with
  | some (j, _) => (ops[j]?).bind (·.dst)
  | none => none
theorem aWant_congr {ops : Array Oper} {o : Oper} (hs : ∀ s, gslot ops o = some s → s < n → vt t s = vt t' s) : aWant n t ops o = aWant n t' ops o := by
  unfold aWant
  unfold gslot at hs
  cases hg : o.guard with
  | none => rfl
  | some p =>
    obtain ⟨j, b⟩ := p
    rw [hg] at hs
    dsimp only at hs ⊢
    have : aYd n t ops j = aYd n t' ops j := by
      unfold aYd
      cases ho : ops[j]? with
      | none => rfl
      | some o' =>
        dsimp only
        cases hd : o'.dst with
        | none => rfl
        | some d =>
          have h1 := hs d (by rw [ho]; exact hd)
          dsimp only
          split
          · rename_i hdn
            have h1 := h1 hdn
            unfold vt at h1
            cases h2 : t.get d with
            | none =>
              rw [h2] at h1
              cases h3 : t'.get d with
              | none => rfl
              | some u =>
                rw [h3] at h1
                simp only [Option.getD_none, Option.getD_some] at h1
                rw [← h1]; rfl
            | some v =>
              rw [h2] at h1
              cases h3 : t'.get d with
              | none =>
                rw [h3] at h1
                simp only [Option.getD_none, Option.getD_some] at h1
                rw [h1]; rfl
              | some u =>
                rw [h3] at h1
                simp only [Option.getD_some] at h1
                rw [h1]
          · rfl
    rw [this]

/-! Kinds of operations, and what is checked of a region once. -/
def opK : Op → Nat
  | .move _ | .assign _ | .pick _ _ _ | .build _ _ | .nilCheck _ | .unOp _ _ _ | .makeInterface _ _ | .makeFunc _ _ _ | .fieldAddr _ _ _ | .field _ _ _ | .indexAddr _ _ _ | .index _ _ _ | .typeAssert _ _ _ _ | .extract _ _ => 1
  | .load _ _ | .binOp _ _ _ _ _ | .convert _ _ _ | .slice _ _ _ _ _ | .lookup _ _ _ _ => 2
  | .call ⟨.builtin .len, _, _⟩ | .call ⟨.builtin .cap, _, _⟩ => 2
  | .alloc _ | .box _ _ | .buildSlice _ _ _ | .makeSlice _ _ _ | .makeMap _ _ => 3
  | _ => 0
theorem aVal0_pure {o : Op} (hk : opK o = 1) : aVal0 P n t h o = aVal0 P n t h' o := by
  cases o with
  | build T ps => obtain ⟨ps⟩ := ps; rfl
  | makeFunc fn l m => obtain ⟨l⟩ := l; obtain ⟨m⟩ := m; cases fn <;> rfl
  | call c =>
    obtain ⟨callee, args, Ts⟩ := c
    cases callee with
    | builtin b => cases b <;> simp [opK] at hk
    | _ => simp [opK] at hk
  | _ => first | rfl | (simp [opK] at hk; done)
theorem aVal_pure {o : Op} (hk : opK o = 1) : aVal P n t h o = aVal P n t h' o := by
  rw [aVal_eq, aVal_eq]; exact aVal0_pure hk
def edgesOf (o : Oper) : List Nat := (o.after.toList.filter fun e => Region.binds .any e).map (·.on)
def isE (ops : Array Oper) (j : Nat) : Bool := match ops[j]? with | some o => opK o.op == 0 | none => false
def step1 (ops : Array Oper) (ls : List Nat) (j : Nat) : Nat := ls.getD j 0 + if isE ops j then 1 else 0
def maxL : List Nat → Nat
  | [] => 0
  | x :: l => max x (maxL l)
def levL (ops : Array Oper) : List Nat := ops.toList.foldl (fun ls o => ls ++ [maxL ((edgesOf o).map (step1 ops ls))]) []
def orL : List Nat → Nat
  | [] => 0
  | x :: l => x ||| orL l
/-- Who comes ahead, as a number's bits. -/
def maskL (ops : Array Oper) : List Nat := ops.toList.foldl (fun ms o => ms ++ [orL ((edgesOf o).map fun j => 2 ^ j ||| ms.getD j 0)]) []
def dstAt (ops : Array Oper) (j : Nat) : Option Nat := (ops[j]?).bind (·.dst)
def edgeTo (ops : Array Oper) (i j : Nat) : Bool := match ops[i]? with | some o => (edgesOf o).contains j | none => false
def opOk (n : Nat) (ops : Array Oper) (ls ms : List Nat) (i : Nat) : Bool := match ops[i]? with
  | none => false
  | some o =>
    (edgesOf o).all (fun j => decide (j < i) && decide (step1 ops ls j ≤ ls.getD i 0)) &&
    (decide (ls.getD i 0 = 0) || (edgesOf o).any fun j => decide (step1 ops ls j = ls.getD i 0)) &&
    (!isE ops i || (List.range i).all fun j => !isE ops j || decide (ls.getD j 0 < ls.getD i 0)) &&
    (match o.dst with
     | none => true
     | some d => decide (d < n) && (List.range ops.size).all fun j => decide (j = i) || (dstAt ops j != some d)) &&
    (slots o.op).all (fun s => (List.range ops.size).all fun j => (dstAt ops j != some s) || edgeTo ops i j || (edgeTo ops j i && decide (opK o.op ≠ 2))) &&
    (match o.guard with
     | none => true
     | some (g, _) => (edgesOf o).contains g) &&
    decide (ms.getD i 0 = orL ((edgesOf o).map fun j => 2 ^ j ||| ms.getD j 0))
def planOk (n : Nat) (ops : Array Oper) (ls ms : List Nat) : Bool := (List.range ops.size).all (opOk n ops ls ms)

/-- Equal values. -/
def veq : Nat → Value → Value → Bool
  | _, .bool a, .bool b => a == b
  | _, .int k a, .int j b => decide (k = j) && decide (a = b)
  | _, .float k a, .float j b => decide (k = j) && decide (a = b)
  | _, .string a, .string b => decide (a.data.toList = b.data.toList)
  | _, .pointer none, .pointer none => true
  | _, .pointer (some a), .pointer (some b) => decide (a = b)
  | _, .slice a l c, .slice b m d => decide (a = b) && decide (l = m) && decide (c = d)
  | _, .map a, .map b => decide (a = b)
  | _, .nilFunc, .nilFunc => true
  | _, .nilIface, .nilIface => true
  | k + 1, .func (.func f) ⟨a⟩ ⟨b⟩, .func (.func g) ⟨c⟩ ⟨d⟩ => decide (f = g) && lst (veq k) a c && lst (veq k) b d
  | k + 1, .iface t v, .iface u w => decide (t = u) && veq k v w
  | k + 1, .agg ⟨a⟩, .agg ⟨b⟩ => lst (veq k) a b
  | k + 1, .tuple ⟨a⟩, .tuple ⟨b⟩ => lst (veq k) a b
  | _, _, _ => false
where lst (f : Value → Value → Bool) : List Value → List Value → Bool
  | [], [] => true
  | x :: l, y :: m => f x y && lst f l m
  | _, _ => false
theorem lst_eq {f : Value → Value → Bool} (hf : ∀ x y, f x y = true → x = y) : ∀ (l m : List Value), veq.lst f l m = true → l = m
  | [], [], _ => rfl
  | x :: l, y :: m, h => by
    simp only [veq.lst, Bool.and_eq_true] at h
    rw [hf x y h.1, lst_eq hf l m h.2]
  | [], _ :: _, h => by simp [veq.lst] at h
  | _ :: _, [], h => by simp [veq.lst] at h
theorem bytes_eq {a b : ByteArray} (h : a.data.toList = b.data.toList) : a = b := by
  apply ByteArray.ext
  exact Array.ext' h
theorem veq_eq : ∀ (k : Nat) (v w : Value), veq k v w = true → v = w := by
  intro k
  induction k with
  | zero =>
    intro v w hv
    unfold veq at hv
    split at hv
    all_goals first
      | rfl
      | (simp at hv; done)
      | (simp only [Bool.and_eq_true, decide_eq_true_eq, beq_iff_eq] at hv; subst hv; rfl)
      | (simp only [Bool.and_eq_true, decide_eq_true_eq] at hv; rw [bytes_eq hv]; done)
      | (simp only [Bool.and_eq_true, decide_eq_true_eq] at hv; obtain ⟨h1, h2⟩ := hv; subst h1; subst h2; rfl)
      | (simp only [Bool.and_eq_true, decide_eq_true_eq] at hv; obtain ⟨⟨h1, h2⟩, h3⟩ := hv; subst h1; subst h2; subst h3; rfl)
      | (rename_i e; cases e)
  | succ k ih =>
    intro v w hv
    unfold veq at hv
    split at hv
    all_goals first
      | rfl
      | (simp at hv; done)
      | (simp only [Bool.and_eq_true, decide_eq_true_eq, beq_iff_eq] at hv; subst hv; rfl)
      | (simp only [Bool.and_eq_true, decide_eq_true_eq] at hv; rw [bytes_eq hv]; done)
      | (simp only [Bool.and_eq_true, decide_eq_true_eq] at hv; obtain ⟨h1, h2⟩ := hv; subst h1; subst h2; rfl)
      | (simp only [Bool.and_eq_true, decide_eq_true_eq] at hv; obtain ⟨⟨h1, h2⟩, h3⟩ := hv; subst h1; subst h2; subst h3; rfl)
      | skip
    · rename_i e
      cases e
      simp only [Bool.and_eq_true, decide_eq_true_eq] at hv
      obtain ⟨⟨h1, h2⟩, h3⟩ := hv
      rw [h1, lst_eq ih _ _ h2, lst_eq ih _ _ h3]
    · rename_i e
      cases e
      simp only [Bool.and_eq_true, decide_eq_true_eq] at hv
      obtain ⟨h1, h2⟩ := hv
      rw [h1, ih _ _ h2]
    · rename_i e
      cases e
      rw [lst_eq ih _ _ hv]
    · rename_i e
      cases e
      rw [lst_eq ih _ _ hv]
end
end Go.X
namespace Go.X
noncomputable section
open Go Go.RowKit
variable {w0 w w' : World} {φ φ' : Phi} {h h' : AH} {P : Program} {n : Nat} {t t' : T Value} {ops : Array Oper} {ls ms : List Nat}

structure PlanSpec (n : Nat) (ops : Array Oper) (ls ms : List Nat) : Prop where
  edge : ∀ (i : Nat) (o : Oper) (j : Nat), ops[i]? = some o → j ∈ edgesOf o → j < i ∧ step1 ops ls j ≤ ls.getD i 0
  att : ∀ (i : Nat) (o : Oper), ops[i]? = some o → ls.getD i 0 = 0 ∨ ∃ j, j ∈ edgesOf o ∧ step1 ops ls j = ls.getD i 0
  tot : ∀ (i j : Nat), i < ops.size → isE ops i = true → isE ops j = true → j < i → ls.getD j 0 < ls.getD i 0
  dst : ∀ (i d : Nat), dstAt ops i = some d → d < n ∧ ∀ j, dstAt ops j = some d → j = i
  slot : ∀ (i : Nat) (o : Oper) (s j : Nat), ops[i]? = some o → s ∈ slots o.op → dstAt ops j = some s → j ∈ edgesOf o ∨ (edgeTo ops j i = true ∧ opK o.op ≠ 2)
  guard : ∀ (i : Nat) (o : Oper) (g : Nat) (b : Bool), ops[i]? = some o → o.guard = some (g, b) → g ∈ edgesOf o
  mask : ∀ (i : Nat) (o : Oper), ops[i]? = some o → ms.getD i 0 = orL ((edgesOf o).map fun j => 2 ^ j ||| ms.getD j 0)
theorem dstAt_lt {i d : Nat} (hd : dstAt ops i = some d) : i < ops.size := by
  unfold dstAt at hd
  cases ho : ops[i]? with
  | none => rw [ho] at hd; cases hd
  | some o => exact (Array.getElem?_eq_some_iff.1 ho).1
theorem dstAt_eq {i : Nat} {o : Oper} (ho : ops[i]? = some o) : dstAt ops i = o.dst := by unfold dstAt; rw [ho]; rfl
theorem plan_spec (hp : planOk n ops ls ms = true) : PlanSpec n ops ls ms := by
  unfold planOk at hp
  rw [List.all_eq_true] at hp
  have key : ∀ (i : Nat) (o : Oper), ops[i]? = some o → opOk n ops ls ms i = true := fun i o ho => hp i (List.mem_range.2 (Array.getElem?_eq_some_iff.1 ho).1)
  have un : ∀ (i : Nat) (o : Oper), ops[i]? = some o → _ := fun i o ho => by
    have := key i o ho
    unfold opOk at this
    rw [ho] at this
    simp only [Bool.and_eq_true] at this
    exact this
  refine ⟨fun i o j ho hj => ?_, fun i o ho => ?_, fun i j hi hE hE' hlt => ?_, fun i d hd => ?_, fun i o s j ho hs hd => ?_, fun i o g b ho hg => ?_, fun i o ho => ?_⟩
  · obtain ⟨⟨⟨⟨⟨⟨h1, h2⟩, h3⟩, h4⟩, h5⟩, h6⟩, h7⟩ := un i o ho
    have := List.all_eq_true.1 h1 j hj
    simpa using this
  · obtain ⟨⟨⟨⟨⟨⟨h1, h2⟩, h3⟩, h4⟩, h5⟩, h6⟩, h7⟩ := un i o ho
    simp only [Bool.or_eq_true, decide_eq_true_eq, List.any_eq_true] at h2
    exact h2
  · have ho : ops[i]? = some ops[i] := Array.getElem?_eq_getElem hi
    obtain ⟨⟨⟨⟨⟨⟨h1, h2⟩, h3⟩, h4⟩, h5⟩, h6⟩, h7⟩ := un i _ ho
    rw [hE] at h3
    simp only [Bool.not_true, Bool.false_or, List.all_eq_true] at h3
    have := h3 j (List.mem_range.2 hlt)
    rw [hE'] at this
    simpa using this
  · have hi := dstAt_lt hd
    have ho : ops[i]? = some ops[i] := Array.getElem?_eq_getElem hi
    obtain ⟨⟨⟨⟨⟨⟨h1, h2⟩, h3⟩, h4⟩, h5⟩, h6⟩, h7⟩ := un i _ ho
    rw [dstAt_eq ho] at hd
    rw [hd] at h4
    simp only [Bool.and_eq_true, decide_eq_true_eq, List.all_eq_true] at h4
    refine ⟨h4.1, fun j hj => ?_⟩
    have := h4.2 j (List.mem_range.2 (dstAt_lt hj))
    rw [hj] at this
    simpa using this
  · obtain ⟨⟨⟨⟨⟨⟨h1, h2⟩, h3⟩, h4⟩, h5⟩, h6⟩, h7⟩ := un i o ho
    have := List.all_eq_true.1 (List.all_eq_true.1 h5 s hs) j (List.mem_range.2 (dstAt_lt hd))
    rw [hd] at this
    simp only [bne_self_eq_false, Bool.false_or, Bool.or_eq_true, Bool.and_eq_true, decide_eq_true_eq] at this
    rcases this with h8 | h8
    · left
      unfold edgeTo at h8
      rw [ho] at h8
      simpa using h8
    · exact .inr h8
  · obtain ⟨⟨⟨⟨⟨⟨h1, h2⟩, h3⟩, h4⟩, h5⟩, h6⟩, h7⟩ := un i o ho
    rw [hg] at h6
    simpa using h6
  · obtain ⟨⟨⟨⟨⟨⟨h1, h2⟩, h3⟩, h4⟩, h5⟩, h6⟩, h7⟩ := un i o ho
    simpa using h7
theorem testBit_orL {l : List Nat} {i : Nat} (hb : (orL l).testBit i = true) : ∃ x, x ∈ l ∧ x.testBit i = true := by
  induction l with
  | nil => simp [orL] at hb
  | cons x l ih =>
    simp only [orL, Nat.testBit_or, Bool.or_eq_true] at hb
    rcases hb with hb | hb
    · exact ⟨x, by simp, hb⟩
    · obtain ⟨y, h1, h2⟩ := ih hb; exact ⟨y, by simp [h1], h2⟩
/-- Whoever comes ahead of one that is listed is listed. -/
theorem mask_listed (sp : PlanSpec n ops ls ms) {L : Nat → Prop} (hcl : ∀ (i : Nat) (o : Oper), L i → ops[i]? = some o → ∀ j, j ∈ edgesOf o → L j) : ∀ (i k : Nat), L i → i < ops.size → (ms.getD i 0).testBit k = true → L k := by
  intro i
  induction i using Nat.strongRecOn with
  | _ i ih =>
    intro k hi hlt hb
    have ho : ops[i]? = some ops[i] := Array.getElem?_eq_getElem hlt
    rw [sp.mask i _ ho] at hb
    obtain ⟨x, hx, hxb⟩ := testBit_orL hb
    obtain ⟨j, hj, rfl⟩ := List.mem_map.1 hx
    have hji := (sp.edge i _ j ho hj).1
    have hLj := hcl i _ hi ho j hj
    rw [Nat.testBit_or, Bool.or_eq_true] at hxb
    rcases hxb with h1 | h1
    · rw [Nat.testBit_two_pow] at h1
      have : j = k := by simpa using h1
      subst this; exact hLj
    · exact ih j hji k hLj (by omega) h1

/-! Operations that nothing waits for. -/
def aN (P : Program) (n : Nat) (t : T Value) (h : AH) (o : Op) : Option (Value × AH) :=
  if opK o = 3 then (match aAl P n t o with
    | some (al, mk) => (match h.newAl al with
      | some (b, h') => some (mk.val b, h')
      | none => none)
    | none => none)
  else if opK o = 0 then none else (match aVal P n t h o with
    | some v => some (v, h)
    | none => none)
def aNs (P : Program) (n : Nat) (ops : Array Oper) : List Nat → T Value → AH → Option (T Value × AH)
  | [], t, h => some (t, h)
  | i :: r, t, h => match ops[i]? with
    | none => none
    | some o => if aWant n t ops o then (match aN P n t h o.op with
        | some (v, h') => (match aPut n t o.dst v with
          | some t' => aNs P n ops r t' h'
          | none => none)
        | none => none)
      else (match aPut n t o.dst undef with
        | some t' => aNs P n ops r t' h
        | none => none)
theorem vt_put {d : Option Tmp} {v : Value} (hs : aPut n t d v = some t') (hn : T.Ok (n)) (s : Nat) : vt t' s = if d = some s then v else vt t s := by
  rw [aPut_eq] at hs
  cases d with
  | none => cases hs; simp
  | some d =>
    dsimp only at hs
    split at hs
    · rename_i hd
      cases hs
      unfold vt
      rw [T.get_set]
      by_cases e : s = d
      · subst e; simp
      · rw [if_neg e, if_neg (by intro x; cases x; exact e rfl)]
    · cases hs
/-- What is known of an operation that has been taken: on which frame and heap, and what it gave. -/
def NFact (P : Program) (n : Nat) (ops : Array Oper) (o : Oper) (tt : T Value) (hh : AH) (t1 : T Value) (h1 : AH) (b : Nat) : Prop :=
  (aWant n tt ops o = true ∧ (((opK o.op = 1 ∨ opK o.op = 2) ∧ ∃ v, aVal P n tt hh o.op = some v ∧ ∀ d, o.dst = some d → vt t1 d = v) ∨
    (opK o.op = 3 ∧ ∃ al mk, aAl P n tt o.op = some (al, mk) ∧ b < h1.next ∧ h1.m.get b = some al.obj ∧ ∀ d, o.dst = some d → vt t1 d = mk.val b))) ∨
  (aWant n tt ops o = false ∧ ∀ d, o.dst = some d → vt t1 d = undef)
theorem opK_le (o : Op) : opK o ≤ 3 := by unfold opK; split <;> omega
theorem aNs_spec (sp : PlanSpec n ops ls ms) (hn : T.Ok (n)) : ∀ (r : List Nat) {t : T Value} {h : AH} {t1 : T Value} {h1 : AH}, r.Pairwise (· < ·) → aNs P n ops r t h = some (t1, h1) → T.Ok (h.next) →
    (h.next ≤ h1.next ∧ T.Ok (h1.next) ∧ ∀ b, b < h.next → h1.m.get b = h.m.get b) ∧
    (∀ s, (∀ i, i ∈ r → dstAt ops i ≠ some s) → vt t1 s = vt t s) ∧
    ∃ b : Nat → Nat, (∀ i, i ∈ r → ((h.next ≤ b i / 2 ∧ b i / 2 < h1.next ∧ b i % 2 = 0) ∨ b i = 2 * i + 1) ∧ ∃ o tt hh, ops[i]? = some o ∧ (∀ s, (∀ j, j ∈ r → j < i → dstAt ops j ≠ some s) → vt tt s = vt t s) ∧
      (∀ s j, j ∈ r → j < i → dstAt ops j = some s → vt tt s = vt t1 s) ∧ NFact P n ops o tt hh t1 h1 (b i / 2) ∧ (opK o.op = 3 → aWant n tt ops o = true → b i % 2 = 0)) ∧ (∀ i j, i ∈ r → j ∈ r → i ≠ j → b i ≠ b j)
  | [], t, h, t1, h1, _, hs, ht => by
    simp only [aNs] at hs; cases hs
    exact ⟨⟨Nat.le_refl _, ht, fun _ _ => rfl⟩, fun _ _ => rfl, fun _ => 0, fun i hi => by simp at hi, fun i j hi => by simp at hi⟩
  | i :: r, t, h, t1, h1, hpw, hs, ht => by
    simp only [aNs] at hs
    have hpw' := List.pairwise_cons.1 hpw
    cases ho : ops[i]? with
    | none => rw [ho] at hs; cases hs
    | some o =>
      rw [ho] at hs
      dsimp only at hs
      have hdi := dstAt_eq ho
      -- the rest, from what the first leaves
      have rest : ∀ {v : Value} {t2 : T Value} {h2 : AH} {bi : Nat}, aPut n t o.dst v = some t2 → aNs P n ops r t2 h2 = some (t1, h1) → h.next ≤ h2.next → T.Ok (h2.next) → (∀ b, b < h.next → h2.m.get b = h.m.get b) →
          ((h.next ≤ bi / 2 ∧ bi / 2 < h2.next ∧ bi % 2 = 0) ∨ bi = 2 * i + 1) → (∀ t1 h1, (∀ d, o.dst = some d → vt t1 d = v) → h2.next ≤ h1.next → (∀ b, b < h2.next → h1.m.get b = h2.m.get b) → NFact P n ops o t h t1 h1 (bi / 2)) → (opK o.op = 3 → aWant n t ops o = true → bi % 2 = 0) →
          (h.next ≤ h1.next ∧ T.Ok (h1.next) ∧ ∀ b, b < h.next → h1.m.get b = h.m.get b) ∧
          (∀ s, (∀ k, k ∈ i :: r → dstAt ops k ≠ some s) → vt t1 s = vt t s) ∧
          ∃ b : Nat → Nat, (∀ k, k ∈ i :: r → ((h.next ≤ b k / 2 ∧ b k / 2 < h1.next ∧ b k % 2 = 0) ∨ b k = 2 * k + 1) ∧ ∃ o tt hh, ops[k]? = some o ∧ (∀ s, (∀ j, j ∈ i :: r → j < k → dstAt ops j ≠ some s) → vt tt s = vt t s) ∧
            (∀ s j, j ∈ i :: r → j < k → dstAt ops j = some s → vt tt s = vt t1 s) ∧ NFact P n ops o tt hh t1 h1 (b k / 2) ∧ (opK o.op = 3 → aWant n tt ops o = true → b k % 2 = 0)) ∧ (∀ k j, k ∈ i :: r → j ∈ i :: r → k ≠ j → b k ≠ b j) := by
        intro v t2 h2 bi hput hrest hle ht2 hget hbi hfact hpar
        have hv := vt_put hput hn
        obtain ⟨⟨a1, a2, a3⟩, a4, b, a5, a6⟩ := aNs_spec sp hn r hpw'.2 hrest ht2
        have hdst : ∀ d, o.dst = some d → vt t1 d = v := by
          intro d hd
          rw [a4 d (fun k hk hkd => by
            have := (sp.dst i d (by rw [hdi]; exact hd)).2 k hkd
            have := hpw'.1 k hk
            omega), hv, if_pos hd]
        refine ⟨⟨Nat.le_trans hle a1, a2, fun b hb => (a3 b (by omega)).trans (hget b hb)⟩, fun s hs => ?_, fun k => if k = i then bi else b k, fun k hk => ?_, fun k j hk hj hkj => ?_⟩
        · rw [a4 s (fun k hk => hs k (List.mem_cons_of_mem _ hk)), hv, if_neg (fun e => hs i (by simp) (by rw [hdi]; exact e))]
        · by_cases e : k = i
          · subst e
            simp only [if_true]
            refine ⟨?_, o, t, h, ho, fun s _ => rfl, fun s j hj hlt hd => ?_, hfact t1 h1 hdst a1 a3, hpar⟩
            · rcases hbi with hbi | hbi
              · exact .inl ⟨hbi.1, by omega, hbi.2.2⟩
              · exact .inr hbi
            · rcases List.mem_cons.1 hj with hj | hj
              · omega
              · have := hpw'.1 j hj; omega
          · have hkr : k ∈ r := by rcases List.mem_cons.1 hk with hk | hk; exact (e hk).elim; exact hk
            dsimp only
            rw [if_neg e]
            obtain ⟨c1, o', tt, hh, c2, c3, c4, c5⟩ := a5 k hkr
            refine ⟨by rcases c1 with c1 | c1; exact .inl ⟨by omega, c1.2⟩; exact .inr c1, o', tt, hh, c2, fun s hs => ?_, fun s j hj hlt hd => ?_, c5⟩
            · rw [c3 s (fun j hj hlt => hs j (List.mem_cons_of_mem _ hj) hlt), hv, if_neg (fun e2 => hs i (by simp) (hpw'.1 k hkr) (by rw [hdi]; exact e2))]
            · rcases List.mem_cons.1 hj with hj | hj
              · subst hj
                have hod : o.dst = some s := by rw [← hdi]; exact hd
                rw [c3 s (fun j2 hj2 _ hd2 => by
                  have := (sp.dst j s hd).2 j2 hd2
                  have := hpw'.1 j2 hj2
                  omega), hv, if_pos hod, hdst s hod]
              · exact c4 s j hj hlt hd
        · dsimp only
          by_cases e : k = i
          · by_cases e2 : j = i
            · exact (hkj (e.trans e2.symm)).elim
            · have hjr : j ∈ r := by rcases List.mem_cons.1 hj with hj | hj; exact (e2 hj).elim; exact hj
              rw [if_pos e, if_neg e2]
              have c1 := (a5 j hjr).1
              have := hpw'.1 j hjr
              rcases hbi with hbi | hbi <;> rcases c1 with c1 | c1 <;> omega
          · have hkr : k ∈ r := by rcases List.mem_cons.1 hk with hk | hk; exact (e hk).elim; exact hk
            rw [if_neg e]
            by_cases e2 : j = i
            · rw [if_pos e2]
              have c1 := (a5 k hkr).1
              have := hpw'.1 k hkr
              rcases hbi with hbi | hbi <;> rcases c1 with c1 | c1 <;> omega
            · have hjr : j ∈ r := by rcases List.mem_cons.1 hj with hj | hj; exact (e2 hj).elim; exact hj
              rw [if_neg e2]
              exact a6 k j hkr hjr hkj
      split at hs
      · rename_i hw
        split at hs
        · rename_i v h2 hN
          split at hs
          · rename_i t2 hput
            unfold aN at hN
            split at hN
            · rename_i hk
              split at hN
              · rename_i al mk hal
                split at hN
                · rename_i b h3 hna
                  cases hN
                  unfold AH.newAl at hna
                  split at hna
                  · rename_i _
                    cases hna
                    have e2 : 2 * h.next / 2 = h.next := by omega
                    refine rest (bi := 2 * h.next) hput hs (Nat.le_succ _) trivial (fun b hb => ?_) (.inl ⟨by rw [e2]; exact Nat.le_refl _, by rw [e2]; exact Nat.lt_succ_self _, by omega⟩) (fun t1 h1 hd hle hg => .inl ⟨hw, .inr ⟨hk, al, mk, hal, by rw [e2]; exact Nat.lt_of_lt_of_le (Nat.lt_succ_self _) hle, ?_, by rw [e2]; exact hd⟩⟩) (fun _ _ => by omega)
                    · show (h.m.set h.next (some al.obj)).get b = _
                      rw [T.get_set, if_neg (by omega)]
                    · rw [e2, hg h.next (Nat.lt_succ_self _)]
                      show (h.m.set h.next (some al.obj)).get h.next = _
                      rw [T.get_set, if_pos rfl]
                  · cases hna
                · cases hN
              · cases hN
            · rename_i hk
              split at hN
              · cases hN
              · rename_i hk0
                split at hN
                · rename_i v' hv
                  cases hN
                  have hk12 : opK o.op = 1 ∨ opK o.op = 2 := by have := opK_le o.op; omega
                  exact rest (bi := 2 * i + 1) hput hs (Nat.le_refl _) ht (fun _ _ => rfl) (.inr rfl) (fun t1 h1 hd _ _ => .inl ⟨hw, .inl ⟨hk12, _, hv, hd⟩⟩) (fun hk3 _ => by omega)
                · cases hN
          · cases hs
        · cases hs
      · rename_i hw
        split at hs
        · rename_i t2 hput
          exact rest (bi := 2 * i + 1) hput hs (Nat.le_refl _) ht (fun _ _ => rfl) (.inr rfl) (fun t1 h1 hd _ _ => .inr ⟨by simpa using hw, hd⟩) (fun _ hw2 => absurd hw2 (by simpa using hw))
        · cases hs
end
end Go.X
namespace Go.X
noncomputable section
open Go Go.RowKit
variable {w0 w w' : World} {φ φ' φ0 : Phi} {h h' h0 h1 h2 : AH} {P : Program} {n : Nat} {t t' tb t1 t2 : T Value} {ops : Array Oper} {ls ms : List Nat}

def lvN (ops : Array Oper) (ls : List Nat) (L : Nat) : List Nat := (List.range ops.size).filter fun i => !isE ops i && decide (ls.getD i 0 = L)
def lvE (ops : Array Oper) (ls : List Nat) (L : Nat) : Option Nat := (List.range ops.size).find? fun i => isE ops i && decide (ls.getD i 0 = L)
open Classical in
/-- Whether something holds. -/
def propB (p : Prop) : Bool := decide p
open Classical in
theorem propB_true {p : Prop} (h : p) : propB p = true := by unfold propB; exact decide_eq_true h
open Classical in
theorem propB_of {p : Prop} (h : propB p = true) : p := by unfold propB at h; exact of_decide_eq_true h
def recheck (P : Program) (n : Nat) (ops : Array Oper) (l : List Nat) (t : T Value) (h : AH) : Bool := l.all fun i => match ops[i]? with
  | none => true
  | some o => if opK o.op = 2 then (if aWant n t ops o then (match aVal P n t h o.op, o.dst with
      | some v, some d => veq 9 v (vt t d) || propB (v = vt t d)
      | some _, none => true
      | none, _ => false) else true) else true
def aCont (P : Program) (call : Call1) (n : Nat) (ops : Array Oper) (ls ms : List Nat) (rec : Nat → List Nat → T Value → AH → Option (List (T Value × AH))) (L : Nat) (seen : List Nat) (t : T Value) (h : AH) : Option (List (T Value × AH)) :=
  match lvE ops ls L with
  | none => some [(t, h)]
  | some e => match ops[e]? with
    | none => none
    | some o => if aWant n t ops o then bindL (aStep P call n t h o.op) fun p => (match aPut n t o.dst p.1 with
        | some t2 => rec (L + 1) ((seen ++ lvN ops ls L).filter fun i => !(ms.getD e 0).testBit i) t2 p.2
        | none => none)
      else (match aPut n t o.dst undef with
        | some t2 => rec (L + 1) ((seen ++ lvN ops ls L).filter fun i => !(ms.getD e 0).testBit i) t2 h
        | none => none)
def aLv (P : Program) (call : Call1) (n : Nat) (ops : Array Oper) (ls ms : List Nat) : Nat → Nat → List Nat → T Value → AH → Option (List (T Value × AH))
  | 0, _, _, _, _ => none
  | k + 1, L, seen, t, h => match aNs P n ops (lvN ops ls L) t h with
    | none => none
    | some (t1, h1) => if recheck P n ops (seen ++ lvN ops ls L) t1 h1 then aCont P call n ops ls ms (aLv P call n ops ls ms k) L seen t1 h1 else none
def aDraw (P : Program) (call : Call1) (n : Nat) (ops : Array Oper) (t : T Value) (h : AH) : Option (List (T Value × AH)) :=
  if planOk n ops (levL ops) (maskL ops) then aLv P call n ops (levL ops) (maskL ops) (ops.size + 1) 0 [] t h else none

/-- What holds while a region is under way: who is listed, who has been reckoned with, on which frame and heap. -/
structure Core (w0 : World) (P : Program) (n : Nat) (ops : Array Oper) (φ0 : Phi) (h0 : AH) (tb : T Value) (d0 : List Deferred) (done : Nat → Prop) (sn : List Nat) (t1 : T Value) (h1 : AH) (φ : Phi) (b : Nat → Nat)
    (lst : Nat → Prop) (a : Act) (w : World) : Prop where
  ld : ∀ i, i < ops.size → lst i → done i
  ed : ∀ i, i < ops.size → isE ops i = true → done i → lst i
  r : R w0 φ h1 w
  nx : Nx φ0 φ h0 h1
  size : a.tmps.size = n
  fw : ∀ s u j, a.tmps[s]? = some u → lst j → dstAt ops j = some s → VR φ (vt t1 s) u
  fb : ∀ s u, a.tmps[s]? = some u → (∀ j, lst j → dstAt ops j ≠ some s) → VR φ (vt tb s) u
  df : a.defers = d0
  tt : ∀ s, (∀ j, dstAt ops j = some s → ¬ done j) → vt t1 s = vt tb s
  nn : ∀ (i : Nat) (o : Oper), ops[i]? = some o → isE ops i = false → done i → ¬ lst i → ∃ q hh,
    (∀ s, s ∈ slots o.op → (∀ j, j ∈ edgesOf o → dstAt ops j = some s → vt q s = vt t1 s) ∧ ((∀ j, j ∈ edgesOf o → dstAt ops j ≠ some s) → vt q s = vt tb s)) ∧
    (∀ s, gslot ops o = some s → vt q s = vt t1 s) ∧ NFact P n ops o q hh t1 h1 (b i / 2) ∧ (opK o.op = 3 → aWant n q ops o = true → φ (b i / 2) = none ∧ b i % 2 = 0)
  bb : ∀ i j, i < ops.size → j < ops.size → isE ops i = false → isE ops j = false → done i → done j → i ≠ j → b i ≠ b j
  bl : ∀ i, i < ops.size → isE ops i = false → done i → (h0.next ≤ b i / 2 ∧ b i / 2 < h1.next ∧ b i % 2 = 0) ∨ b i = 2 * i + 1
  sn : ∀ (i : Nat) (o : Oper), ops[i]? = some o → opK o.op = 2 → done i → ¬ lst i → i ∈ sn
theorem R.ghosts (r : R w0 φ h w) (hle : h.next ≤ h'.next) (ht : T.Ok (h'.next)) (hg : ∀ b, b < h.next → h'.m.get b = h.m.get b) : R w0 φ h' w := by
  have e : ∀ {b i}, φ b = some i → h'.m.get b = h.m.get b := fun hb => hg _ (r.lt _ _ hb).2
  exact ⟨fun b i o hi ho => r.dom b i o hi (by rw [← e hi]; exact ho), fun b i o hi ho => r.low b i o hi (by rw [← e hi]; exact ho),
    fun b b' i i' o o' hi hi' ho ho' => r.inj b b' i i' o o' hi hi' (by rw [← e hi]; exact ho) (by rw [← e hi']; exact ho'), fun b i hi => ⟨(r.lt b i hi).1, Nat.lt_of_lt_of_le (r.lt b i hi).2 hle⟩, ht, r.below⟩
theorem mem_lvN {i L : Nat} : i ∈ lvN ops ls L ↔ i < ops.size ∧ isE ops i = false ∧ ls.getD i 0 = L := by
  unfold lvN
  rw [List.mem_filter, List.mem_range]
  simp
theorem lvN_pw (L : Nat) : (lvN ops ls L).Pairwise (· < ·) := by
  unfold lvN
  exact List.Pairwise.filter _ List.pairwise_lt_range
theorem isE_of {i : Nat} {o : Oper} (ho : ops[i]? = some o) : isE ops i = (opK o.op == 0) := by unfold isE; rw [ho]
/-- Entering a level. -/
theorem enter_ok (sp : PlanSpec n ops ls ms) (hn : T.Ok (n)) {d0 : List Deferred} {L : Nat} {seen : List Nat} {b : Nat → Nat} {lst : Nat → Prop} {a : Act}
    (c : Core w0 P n ops φ0 h0 tb d0 (fun i => ls.getD i 0 < L) seen t h φ b lst a w) (hs : aNs P n ops (lvN ops ls L) t h = some (t1, h1)) (hr : recheck P n ops (seen ++ lvN ops ls L) t1 h1 = true) :
    ∃ b', Core w0 P n ops φ0 h0 tb d0 (fun i => ls.getD i 0 < L ∨ (isE ops i = false ∧ ls.getD i 0 = L)) (seen ++ lvN ops ls L) t1 h1 φ b' lst a w ∧
      ∀ (i : Nat) (o : Oper), ops[i]? = some o → opK o.op = 2 → (ls.getD i 0 < L ∨ (isE ops i = false ∧ ls.getD i 0 = L)) → ¬ lst i → aWant n t1 ops o = true → ∃ v, aVal P n t1 h1 o.op = some v ∧ ∀ d, o.dst = some d → vt t1 d = v := by
  obtain ⟨⟨a1, a2, a3⟩, a4, bn, a5, a6⟩ := aNs_spec sp hn _ (lvN_pw L) hs c.r.nx
  have keep : ∀ s j, dstAt ops j = some s → ls.getD j 0 ≠ L → vt t1 s = vt t s := fun s j hd hl => a4 s (fun i hi hdi => by
    have := (sp.dst j s hd).2 i hdi
    subst this
    exact hl (mem_lvN.1 hi).2.2)
  have none_t1 : ∀ s, (∀ j, dstAt ops j = some s → ¬ (ls.getD j 0 < L ∨ (isE ops j = false ∧ ls.getD j 0 = L))) → vt t1 s = vt tb s := fun s hs => by
    rw [a4 s (fun i hi hdi => hs i hdi (.inr (mem_lvN.1 hi).2)), c.tt s (fun j hd hl => hs j hd (.inl hl))]
  have gst : ∀ {i : Nat} {o : Oper} {s : Nat}, ops[i]? = some o → gslot ops o = some s → ∃ g, g ∈ edgesOf o ∧ dstAt ops g = some s := by
    intro i o s ho hg
    unfold gslot at hg
    cases hq : o.guard with
    | none => rw [hq] at hg; cases hg
    | some p =>
      obtain ⟨g, q⟩ := p
      rw [hq] at hg
      exact ⟨g, sp.guard i o g q ho hq, hg⟩
  -- an edge's writer has been taken before
  have edge_lt : ∀ {i : Nat} {o : Oper} {j : Nat}, ops[i]? = some o → j ∈ edgesOf o → j < i ∧ (ls.getD j 0 < ls.getD i 0 ∨ (isE ops j = false ∧ ls.getD j 0 ≤ ls.getD i 0)) := by
    intro i o j ho hj
    obtain ⟨e1, e2⟩ := sp.edge i o j ho hj
    refine ⟨e1, ?_⟩
    unfold step1 at e2
    cases hE : isE ops j with
    | true => rw [hE] at e2; simp only [if_true] at e2; left; omega
    | false => rw [hE] at e2; right; exact ⟨rfl, by simpa using e2⟩
  have fact : ∀ (i : Nat) (o : Oper), ops[i]? = some o → isE ops i = false → (ls.getD i 0 < L ∨ (isE ops i = false ∧ ls.getD i 0 = L)) → ¬ lst i → ∃ q hh,
      (∀ s, s ∈ slots o.op → (∀ j, j ∈ edgesOf o → dstAt ops j = some s → vt q s = vt t1 s) ∧ ((∀ j, j ∈ edgesOf o → dstAt ops j ≠ some s) → vt q s = vt tb s)) ∧
      (∀ s, gslot ops o = some s → vt q s = vt t1 s) ∧ NFact P n ops o q hh t1 h1 ((if ls.getD i 0 = L then bn i else b i) / 2) ∧ (opK o.op = 3 → aWant n q ops o = true → φ ((if ls.getD i 0 = L then bn i else b i) / 2) = none ∧ (if ls.getD i 0 = L then bn i else b i) % 2 = 0) := by
    intro i o ho hE hd hl
    have hdi := dstAt_eq ho
    by_cases hL : ls.getD i 0 = L
    · have hi : i ∈ lvN ops ls L := mem_lvN.2 ⟨(Array.getElem?_eq_some_iff.1 ho).1, hE, hL⟩
      obtain ⟨c1, o', q, hh, c2, c3, c4, c5, c6⟩ := a5 i hi
      rw [ho] at c2; cases c2
      rw [if_pos hL]
      have edgew : ∀ s j, j ∈ edgesOf o → dstAt ops j = some s → vt q s = vt t1 s := by
        intro s j hj hds
        obtain ⟨e1, e2⟩ := edge_lt ho hj
        by_cases hjr : j ∈ lvN ops ls L
        · exact c4 s j hjr e1 hds
        · have hne : ls.getD j 0 ≠ L := fun e => by
            rcases e2 with e2 | e2
            · omega
            · exact hjr (mem_lvN.2 ⟨dstAt_lt hds, e2.1, e⟩)
          rw [keep s j hds hne]
          exact c3 s (fun j2 hj2 _ hd2 => by
            have := (sp.dst j s hds).2 j2 hd2
            subst this; exact hjr hj2)
      refine ⟨q, hh, fun s hs => ⟨fun j hj hds => edgew s j hj hds, fun hno => ?_⟩, fun s hg => ?_, c5, fun hk3 hw => ?_⟩
      · have hw : ∀ j, dstAt ops j = some s → i < j ∧ ls.getD i 0 ≤ ls.getD j 0 := by
          intro j hds
          rcases sp.slot i o s j ho hs hds with h5 | h5
          · exact (hno j h5 hds).elim
          · have hjo : ops[j]? = some (ops[j]'(dstAt_lt hds)) := Array.getElem?_eq_getElem (dstAt_lt hds)
            unfold edgeTo at h5
            rw [hjo] at h5
            have hji : i ∈ edgesOf (ops[j]'(dstAt_lt hds)) := by simpa using h5.1
            have := edge_lt hjo hji
            exact ⟨this.1, by rcases this.2 with h6 | h6 <;> omega⟩
        rw [c3 s (fun j _ hlt hds => by have := hw j hds; omega)]
        exact c.tt s (fun j hds hlt => by have := hw j hds; omega)
      · obtain ⟨g, hg1, hg2⟩ := gst ho hg
        exact edgew s g hg1 hg2
      · refine ⟨?_, c6 hk3 hw⟩
        cases hφ : φ (bn i / 2) with
        | none => rfl
        | some im =>
          have := (c.r.lt _ _ hφ).2
          have h6 := c6 hk3 hw
          rcases c1 with c1 | c1 <;> omega
    · have hlt : ls.getD i 0 < L := by rcases hd with hd | hd; exact hd; exact (hL hd.2).elim
      obtain ⟨q, hh, q1, q2, q3, q4⟩ := c.nn i o ho hE hlt hl
      rw [if_neg hL]
      have edgew : ∀ s j, j ∈ edgesOf o → dstAt ops j = some s → vt t1 s = vt t s := by
        intro s j hj hds
        have := edge_lt ho hj
        exact keep s j hds (by rcases this.2 with h6 | h6 <;> omega)
      refine ⟨q, hh, fun s hs => ⟨fun j hj hds => ?_, fun hno => (q1 s hs).2 hno⟩, fun s hg => ?_, ?_, q4⟩
      · rw [(q1 s hs).1 j hj hds, edgew s j hj hds]
      · obtain ⟨g, hg1, hg2⟩ := gst ho hg
        rw [q2 s hg, edgew s g hg1 hg2]
      · have hdst : ∀ d, o.dst = some d → vt t1 d = vt t d := fun d hd => keep d i (by rw [hdi]; exact hd) hL
        rcases q3 with ⟨hw, ⟨hk, v, hv, hd⟩ | ⟨hk, al, mk, hal, hb1, hb2, hd⟩⟩ | ⟨hw, hd⟩
        · exact .inl ⟨hw, .inl ⟨hk, v, hv, fun d hd' => by rw [hdst d hd', hd d hd']⟩⟩
        · exact .inl ⟨hw, .inr ⟨hk, al, mk, hal, by omega, by rw [a3 _ hb1]; exact hb2, fun d hd' => by rw [hdst d hd', hd d hd']⟩⟩
        · exact .inr ⟨hw, fun d hd' => by rw [hdst d hd', hd d hd']⟩
  refine ⟨fun i => if ls.getD i 0 = L then bn i else b i, ⟨fun i hi hl => .inl (c.ld i hi hl), fun i hi hE hd => ?_, c.r.ghosts a1 a2 a3, ?_, c.size, fun s u j hu hl hds => ?_, c.fb, c.df, none_t1, fact, fun i j hi hj hEi hEj hdi hdj hij => ?_, fun i hi hE hd => ?_, fun i o ho hk hd hl => ?_⟩, ?_⟩
  · rcases hd with hd | hd
    · exact c.ed i hi hE hd
    · rw [hE] at hd; cases hd.1
  · exact ⟨c.nx.le, Nat.le_trans c.nx.next a1, fun k hk hlt => ⟨(c.nx.ghost k hk hlt).1, (a3 k (Nat.lt_of_lt_of_le hlt c.nx.next)).trans (c.nx.ghost k hk hlt).2⟩⟩
  · have := c.ld j (dstAt_lt hds) hl
    rw [keep s j hds (by omega)]
    exact c.fw s u j hu hl hds
  · by_cases e1 : ls.getD i 0 = L
    · have hi' : i ∈ lvN ops ls L := mem_lvN.2 ⟨hi, hEi, e1⟩
      rw [if_pos e1]
      by_cases e2 : ls.getD j 0 = L
      · rw [if_pos e2]
        exact a6 i j hi' (mem_lvN.2 ⟨hj, hEj, e2⟩) hij
      · rw [if_neg e2]
        have c1 := (a5 i hi').1
        have c2 := c.bl j hj hEj (by rcases hdj with h5 | h5; exact h5; exact (e2 h5.2).elim)
        rcases c1 with c1 | c1 <;> rcases c2 with c2 | c2 <;> omega
    · rw [if_neg e1]
      have hi2 : ls.getD i 0 < L := by rcases hdi with h5 | h5; exact h5; exact (e1 h5.2).elim
      by_cases e2 : ls.getD j 0 = L
      · have hj' : j ∈ lvN ops ls L := mem_lvN.2 ⟨hj, hEj, e2⟩
        rw [if_pos e2]
        have c1 := (a5 j hj').1
        have c2 := c.bl i hi hEi hi2
        rcases c1 with c1 | c1 <;> rcases c2 with c2 | c2 <;> omega
      · rw [if_neg e2]
        exact c.bb i j hi hj hEi hEj hi2 (by rcases hdj with h5 | h5; exact h5; exact (e2 h5.2).elim) hij
  · by_cases e1 : ls.getD i 0 = L
    · rw [if_pos e1]
      have c1 := (a5 i (mem_lvN.2 ⟨hi, hE, e1⟩)).1
      rcases c1 with c1 | c1
      · exact .inl ⟨Nat.le_trans c.nx.next c1.1, c1.2⟩
      · exact .inr c1
    · rw [if_neg e1]
      rcases c.bl i hi hE (by rcases hd with h5 | h5; exact h5; exact (e1 h5.2).elim) with c2 | c2
      · exact .inl ⟨c2.1, Nat.lt_of_lt_of_le c2.2.1 a1, c2.2.2⟩
      · exact .inr c2
  · rcases hd with hd | hd
    · exact List.mem_append_left _ (c.sn i o ho hk hd hl)
    · exact List.mem_append_right _ (mem_lvN.2 ⟨(Array.getElem?_eq_some_iff.1 ho).1, hd⟩)
  · intro i o ho hk hd hl hw
    have hin : i ∈ seen ++ lvN ops ls L := by
      rcases hd with hd | hd
      · exact List.mem_append_left _ (c.sn i o ho hk hd hl)
      · exact List.mem_append_right _ (mem_lvN.2 ⟨(Array.getElem?_eq_some_iff.1 ho).1, hd⟩)
    have := List.all_eq_true.1 hr i hin
    rw [ho] at this
    dsimp only at this
    rw [if_pos hk, if_pos hw] at this
    cases hv : aVal P n t1 h1 o.op with
    | none => rw [hv] at this; simp at this
    | some v =>
      refine ⟨v, rfl, fun d hd => ?_⟩
      rw [hv, hd] at this
      dsimp only at this
      rw [Bool.or_eq_true] at this
      rcases this with this | this
      · exact (veq_eq 9 _ _ this).symm
      · exact (propB_of this).symm
end
end Go.X
namespace Go.X
noncomputable section
open Go Go.RowKit
variable {w0 w w' : World} {φ φ' φ0 : Phi} {h h' h0 h1 h2 : AH} {P : Program} {n : Nat} {t t' tb t1 t2 : T Value} {ops : Array Oper} {ls ms : List Nat}

theorem countF_set {l : Array Bool} {i : Nat} (h : l.getD i true = false) : ((l.setIfInBounds i true).toList.countP (fun b => !b)) + 1 = l.toList.countP (fun b => !b) := by
  have hi : i < l.size := by
    rcases Nat.lt_or_ge i l.size with h' | h'
    · exact h'
    · rw [Array.getD_eq_getD_getElem?, Array.getElem?_eq_none h'] at h; simp at h
  have he : l.toList[i]'(by simpa using hi) = false := by
    rw [Array.getD_eq_getD_getElem?, Array.getElem?_eq_getElem hi] at h
    simpa using h
  rw [Array.toList_setIfInBounds]
  exact aux _ i _ he
where
  aux : ∀ (m : List Bool) (i : Nat) (h : i < m.length), m[i] = false → (m.set i true).countP (fun b => !b) + 1 = m.countP (fun b => !b)
    | [], i, h, _ => by simp at h
    | b :: m, 0, _, he => by simp at he; subst he; simp
    | b :: m, i + 1, h, he => by
      simp only [List.set_cons_succ, List.countP_cons]
      have := aux m i (by simpa using h) (by simpa using he)
      omega

/-- A new name, thought of before, for a block that is laid. -/
theorem R.bindGhost (r : R w0 φ h w) {b : Nat} {al : Al} {mk : Mk} {x : Obj} (hφ : φ b = none) (hlt : b < h.next) (hg : h.m.get b = some al.obj) (hk : al.ok mk = true) (ha : AlR φ al x) :
    ∃ φ', Le φ φ' ∧ φ' b = some (al.im w.heap.size) ∧ (∀ k, k ≠ b → φ' k = φ k) ∧ R w0 φ' h (w.alloc x) := by
  have hc : (al.im w.heap.size).c = w.heap.size := by cases al <;> rfl
  have le : Le φ (fun k => if k = b then some (al.im w.heap.size) else φ k) := by
    intro k j hj
    show (if k = b then _ else φ k) = some j
    rw [if_neg (fun e => by subst e; rw [hφ] at hj; cases hj)]; exact hj
  have hnew : (w.alloc x).heap[w.heap.size]? = some x := World.alloc_heap_new w x
  have r1 := r.allocW x
  refine ⟨fun k => if k = b then some (al.im w.heap.size) else φ k, le, if_pos rfl, fun k hk => if_neg hk, ?_⟩
  refine ⟨fun k j o hj ho => ?_, fun k j o hj ho hr => ?_, fun k k' j j' o o' hj hj' ho ho' hr hcc => ?_, fun k j hj => ?_, r.nx, r1.below⟩
  · by_cases e : k = b
    · subst e
      rw [if_pos rfl] at hj; cases hj
      rw [hg] at ho; cases ho
      exact AlR.or hk ha le hnew
    · rw [if_neg e] at hj
      exact (r1.dom k j o hj ho).mono le
  · by_cases e : k = b
    · subst e
      rw [if_pos rfl] at hj; cases hj
      rw [hc]; exact r.below.size
    · rw [if_neg e] at hj
      exact r1.low k j o hj ho hr
  · by_cases e : k = b
    · by_cases e' : k' = b
      · rw [e, e']
      · subst e
        rw [if_pos rfl] at hj; cases hj
        rw [if_neg e'] at hj'
        have := (r.lt k' j' hj').1
        omega
    · by_cases e' : k' = b
      · subst e'
        rw [if_pos rfl] at hj'; cases hj'
        rw [if_neg e] at hj
        have := (r.lt k j hj).1
        omega
      · rw [if_neg e] at hj
        rw [if_neg e'] at hj'
        exact r.inj k k' j j' o o' hj hj' ho ho' hr hcc
  · by_cases e : k = b
    · subst e
      rw [if_pos rfl] at hj; cases hj
      rw [hc]
      exact ⟨by simp, hlt⟩
    · rw [if_neg e] at hj
      exact r1.lt k j hj
/-- A frame on which all slots are known. -/
theorem Core.frame {d0 : List Deferred} {done : Nat → Prop} {sn : List Nat} {b : Nat → Nat} {lst : Nat → Prop} {a : Act} (hn : T.Ok (n)) (c : Core w0 P n ops φ0 h0 tb d0 done sn t1 h1 φ b lst a w) :
    ∃ tS, FR φ n tS a.tmps ∧ (∀ s j, s < n → lst j → dstAt ops j = some s → vt tS s = vt t1 s) ∧ (∀ s, s < n → (∀ j, lst j → dstAt ops j ≠ some s) → vt tS s = vt tb s) := by
  classical
  let g : Nat → Value := fun s => if ∃ j, lst j ∧ dstAt ops j = some s then vt t1 s else vt tb s
  have hget : ∀ s, s < n → vt (T.fill ((List.range n).map g) 0 .e) s = g s := by
    intro s hs
    unfold vt
    rw [T.get_fill, if_pos (by simp; exact hs)]
    simp [hs]
  refine ⟨T.fill ((List.range n).map g) 0 .e, ⟨c.size, hn, fun s u hu => ?_⟩, fun s j hs hl hd => ?_, fun s hs hno => ?_⟩
  · have hs : s < n := by
      have := (Array.getElem?_eq_some_iff.1 hu).1
      rw [c.size] at this; exact this
    have := hget s hs
    unfold vt at this
    rw [this]
    show VR φ (if ∃ j, lst j ∧ dstAt ops j = some s then vt t1 s else vt tb s) u
    by_cases e : ∃ j, lst j ∧ dstAt ops j = some s
    · rw [if_pos e]
      obtain ⟨j, h1, h2⟩ := e
      exact c.fw s u j hu h1 h2
    · rw [if_neg e]
      exact c.fb s u hu (fun j hl hd => e ⟨j, hl, hd⟩)
  · rw [hget s hs]
    exact if_pos ⟨j, hl, hd⟩
  · rw [hget s hs]
    exact if_neg (fun ⟨j, h1, h2⟩ => hno j h1 h2)
/-- The frame where one more is listed. -/
theorem Core.put {d0 : List Deferred} {done : Nat → Prop} {sn : List Nat} {b : Nat → Nat} {lst : Nat → Prop} {a : Act} (c : Core w0 P n ops φ0 h0 tb d0 done sn t1 h1 φ b lst a w) (le : Le φ φ')
    {i : Nat} {o : Oper} (ho : ops[i]? = some o) {v v' : Value} (hv : VR φ' v v') {t2 : T Value} (h2 : ∀ s, o.dst ≠ some s → vt t2 s = vt t1 s) (h3 : ∀ d, o.dst = some d → vt t2 d = v) :
    (a.put o.dst v').tmps.size = n ∧ (∀ s u j, (a.put o.dst v').tmps[s]? = some u → (lst j ∨ j = i) → dstAt ops j = some s → VR φ' (vt t2 s) u) ∧
      (∀ s u, (a.put o.dst v').tmps[s]? = some u → (∀ j, (lst j ∨ j = i) → dstAt ops j ≠ some s) → VR φ' (vt tb s) u) ∧ (a.put o.dst v').defers = d0 := by
  have hdi := dstAt_eq ho
  cases hd : o.dst with
  | none =>
    refine ⟨c.size, fun s u j hu hl hds => ?_, fun s u hu hno => (c.fb s u hu (fun j hl => hno j (.inl hl))).mono le, c.df⟩
    rcases hl with hl | hl
    · rw [h2 s (by rw [hd]; simp)]; exact (c.fw s u j hu hl hds).mono le
    · subst hl; rw [hdi, hd] at hds; cases hds
  | some d =>
    have hsz : (a.tmps.setIfInBounds d v').size = n := by simp [c.size]
    refine ⟨hsz, fun s u j hu hl hds => ?_, fun s u hu hno => ?_, c.df⟩
    · have hu' : (a.tmps.setIfInBounds d v')[s]? = some u := hu
      rw [Array.getElem?_setIfInBounds] at hu'
      by_cases e : d = s
      · subst e
        rw [if_pos rfl] at hu'
        split at hu'
        · cases hu'; rw [h3 d hd]; exact hv
        · cases hu'
      · rw [if_neg e] at hu'
        have hji : j ≠ i := fun e2 => by subst e2; rw [hdi, hd] at hds; cases hds; exact e rfl
        rw [h2 s (by rw [hd]; intro x; cases x; exact e rfl)]
        exact (c.fw s u j hu' (hl.resolve_right hji) hds).mono le
    · have hu' : (a.tmps.setIfInBounds d v')[s]? = some u := hu
      rw [Array.getElem?_setIfInBounds] at hu'
      by_cases e : d = s
      · subst e; exact (hno i (.inr rfl) (by rw [hdi, hd])).elim
      · rw [if_neg e] at hu'
        exact (c.fb s u hu' (fun j hl => hno j (.inl hl))).mono le
end
end Go.X
namespace Go.X
noncomputable section
open Go Go.RowKit
variable {w0 w w' : World} {φ φ' φ0 : Phi} {h h' h0 h1 h2 : AH} {P : Program} {n : Nat} {t t' tb t1 t2 : T Value} {ops : Array Oper} {ls ms : List Nat}

theorem opK_defer {o : Op} (hk : opK o ≠ 0) : ∀ c, o ≠ .defer c := fun c e => by subst e; simp [opK] at hk
/-- What is yet to come, and all that is known. -/
def Inv (w0 : World) (P : Program) (call : Call1) (n : Nat) (ops : Array Oper) (ls ms : List Nat) (φ0 : Phi) (h0 : AH) (tb : T Value) (d0 : List Deferred) (l : List (T Value × AH)) (lst : Nat → Prop) (a : Act) (w : World) : Prop :=
  ∃ k L seen t1 h1 lo φ b, aCont P call n ops ls ms (aLv P call n ops ls ms k) L seen t1 h1 = some lo ∧ (∀ x, x ∈ lo → x ∈ l) ∧
    Core w0 P n ops φ0 h0 tb d0 (fun i => ls.getD i 0 < L ∨ (isE ops i = false ∧ ls.getD i 0 = L)) (seen ++ lvN ops ls L) t1 h1 φ b lst a w ∧
    ∀ (i : Nat) (o : Oper), ops[i]? = some o → opK o.op = 2 → (ls.getD i 0 < L ∨ (isE ops i = false ∧ ls.getD i 0 = L)) → ¬ lst i → aWant n t1 ops o = true → ∃ v, aVal P n t1 h1 o.op = some v ∧ ∀ d, o.dst = some d → vt t1 d = v
theorem enter_inv (sp : PlanSpec n ops ls ms) (hn : T.Ok (n)) {call : Call1} {d0 : List Deferred} {k L : Nat} {seen : List Nat} {b : Nat → Nat} {lst : Nat → Prop} {a : Act} {lo l : List (T Value × AH)}
    (c : Core w0 P n ops φ0 h0 tb d0 (fun i => ls.getD i 0 < L) seen t h φ b lst a w) (hs : aLv P call n ops ls ms k L seen t h = some lo) (hsub : ∀ x, x ∈ lo → x ∈ l) : Inv w0 P call n ops ls ms φ0 h0 tb d0 l lst a w := by
  cases k with
  | zero => simp [aLv] at hs
  | succ k =>
    simp only [aLv] at hs
    split at hs
    · cases hs
    · rename_i t1 h1 hns
      split at hs
      · rename_i hr
        obtain ⟨b', c1, c2⟩ := enter_ok sp hn c hns hr
        exact ⟨k, L, seen, t1, h1, lo, φ, b', hs, hsub, c1, c2⟩
      · cases hs
theorem step_inv (hN : NoCount P) {call : Call1} (hc : CallsOk w0 P call) (sp : PlanSpec n ops ls ms) (hn : T.Ok (n)) {d0 : List Deferred} {l : List (T Value × AH)} {lst : Nat → Prop} {a : Act} {q : Option Nat} {m : Nat} {Q : Exit → Act → World → Prop} {K : Act → World → Prop}
    (hcl : ∀ (i : Nat) (o : Oper), lst i → ops[i]? = some o → ∀ j, j ∈ edgesOf o → lst j) (inv : Inv w0 P call n ops ls ms φ0 h0 tb d0 l lst a w) {i : Nat} {o : Oper} (ho : ops[i]? = some o) (hun : ¬ lst i) (hrd : ∀ j, j ∈ edgesOf o → lst j)
    (hK : ∀ a' w', Inv w0 P call n ops ls ms φ0 h0 tb d0 l (fun j => lst j ∨ j = i) a' w' → K a' w') : wpOpIn (FW q) m P ops Q i K a w := by
  obtain ⟨k, L, seen, t1, h1, lo, φ, b, hcont, hsub, c, k2⟩ := inv
  have hi : i < ops.size := (Array.getElem?_eq_some_iff.1 ho).1
  have hdi := dstAt_eq ho
  -- its level
  have hle : ls.getD i 0 ≤ L := by
    rcases sp.att i o ho with h5 | ⟨j, hj, h5⟩
    · omega
    · have hlj := hrd j hj
      have hjl : j < ops.size := Nat.lt_trans (sp.edge i o j ho hj).1 hi
      have hd := c.ld j hjl hlj
      unfold step1 at h5
      cases hE : isE ops j with
      | true =>
        rw [hE] at h5
        simp only [if_true] at h5
        rcases hd with hd | hd
        · omega
        · rw [hE] at hd; cases hd.1
      | false =>
        rw [hE] at h5
        simp only [Bool.false_eq_true, if_false, Nat.add_zero] at h5
        rcases hd with hd | hd <;> omega
  obtain ⟨tS, fS, wS, uS⟩ := c.frame hn
  -- a slot that no edge of its own writes is as it was
  have noedge : ∀ s, s ∈ slots o.op → s < n → (∀ j, j ∈ edgesOf o → dstAt ops j ≠ some s) → vt tS s = vt tb s := by
    intro s hs hsn hno
    refine uS s hsn (fun j hl hd => ?_)
    rcases sp.slot i o s j ho hs hd with h5 | h5
    · exact hno j h5 hd
    · have hjo : ops[j]? = some (ops[j]'(dstAt_lt hd)) := Array.getElem?_eq_getElem (dstAt_lt hd)
      have h6 := h5.1
      unfold edgeTo at h6
      rw [hjo] at h6
      exact hun (hcl j _ hl hjo i (by simpa using h6))
  have gS : ∀ s, gslot ops o = some s → s < n → vt tS s = vt t1 s := by
    intro s hg hsn
    unfold gslot at hg
    cases hq : o.guard with
    | none => rw [hq] at hg; cases hg
    | some p =>
      obtain ⟨g, y⟩ := p
      rw [hq] at hg
      exact wS s g hsn (hrd g (sp.guard i o g y ho hq)) hg
  unfold wpOpIn
  rw [ho]
  dsimp only
  rw [want_ok fS]
  cases hE : isE ops i with
  | false =>
    have hdone : ls.getD i 0 < L ∨ (isE ops i = false ∧ ls.getD i 0 = L) := by
      rcases Nat.lt_or_ge (ls.getD i 0) L with h5 | h5
      · exact .inl h5
      · exact .inr ⟨hE, by omega⟩
    have hk0 : opK o.op ≠ 0 := by rw [isE_of ho] at hE; simpa using hE
    obtain ⟨tq, hh, q1, q2, q3, q4⟩ := c.nn i o ho hE hdone hun
    have aS : ∀ s, s ∈ slots o.op → s < n → vt tq s = vt tS s := by
      intro s hs hsn
      by_cases e : ∃ j, j ∈ edgesOf o ∧ dstAt ops j = some s
      · obtain ⟨j, hj, hd⟩ := e
        rw [(q1 s hs).1 j hj hd, wS s j hsn (hrd j hj) hd]
      · have hno : ∀ j, j ∈ edgesOf o → dstAt ops j ≠ some s := fun j hj hd => e ⟨j, hj, hd⟩
        rw [(q1 s hs).2 hno, noedge s hs hsn hno]
    have gq : ∀ s, gslot ops o = some s → s < n → vt tq s = vt tS s := fun s hg hsn => by rw [q2 s hg, gS s hg hsn]
    have hwq : aWant n tq ops o = aWant n tS ops o := aWant_congr gq
    have hw1 : aWant n t1 ops o = aWant n tS ops o := aWant_congr (fun s hg hsn => (gS s hg hsn).symm)
    -- what is known behind
    have fin : ∀ {v v' : Value} {w' : World} {φ' : Phi}, Le φ φ' → Nx φ0 φ' h0 h1 → R w0 φ' h1 w' → VR φ' v v' → (∀ d, o.dst = some d → vt t1 d = v) →
        (∀ (j : Nat) (o' : Oper), ops[j]? = some o' → j ≠ i → isE ops j = false → (ls.getD j 0 < L ∨ (isE ops j = false ∧ ls.getD j 0 = L)) → b j % 2 = 0 → b j / 2 < h1.next → φ (b j / 2) = none → φ' (b j / 2) = none) → K (a.put o.dst v') w' := by
      intro v v' w' φ' le nx r hv hd hkeep
      obtain ⟨p1, p2, p3, p4⟩ := c.put le ho hv (fun s _ => rfl) hd
      refine hK _ _ ⟨k, L, seen, t1, h1, lo, φ', b, hcont, hsub, ⟨fun j hj hl => ?_, fun j hj hEj hdj => .inl (c.ed j hj hEj hdj), r, nx, p1, p2, p3, p4, c.tt, fun j o' ho' hEj hdj hl => ?_, c.bb, c.bl, fun j o' ho' hkj hdj hl => c.sn j o' ho' hkj hdj (fun x => hl (.inl x))⟩,
        fun j o' ho' hkj hdj hl hw => k2 j o' ho' hkj hdj (fun x => hl (.inl x)) hw⟩
      · rcases hl with hl | hl
        · exact c.ld j hj hl
        · subst hl; exact hdone
      · obtain ⟨tq', hh', e1, e2, e3, e4⟩ := c.nn j o' ho' hEj hdj (fun x => hl (.inl x))
        refine ⟨tq', hh', e1, e2, e3, fun hk3 hw => ?_⟩
        have hb : b j / 2 < h1.next := by
          rcases e3 with ⟨_, ⟨hk, _⟩ | ⟨_, al, mk, _, hb, _⟩⟩ | ⟨hw', _⟩
          · omega
          · exact hb
          · rw [hw] at hw'; cases hw'
        exact ⟨hkeep j o' ho' (fun e => hl (.inr e)) hEj hdj (e4 hk3 hw).2 hb (e4 hk3 hw).1, (e4 hk3 hw).2⟩
    rcases q3 with ⟨hw, ⟨hk12, v, hv, hd⟩ | ⟨hk3, al, mk, hal, hb1, hb2, hd⟩⟩ | ⟨hw, hd⟩
    · rw [if_pos (by rw [← hwq]; exact hw)]
      have hvS : ∃ v, aVal P n tS h1 o.op = some v ∧ ∀ d, o.dst = some d → vt t1 d = v := by
        rcases hk12 with hk | hk
        · exact ⟨v, by rw [← aVal_congr aS, ← hv]; exact aVal_pure hk, hd⟩
        · obtain ⟨v2, hv2, hd2⟩ := k2 i o ho hk hdone hun (by rw [hw1, ← hwq]; exact hw)
          have a1S : ∀ s, s ∈ slots o.op → s < n → vt t1 s = vt tS s := by
            intro s hs hsn
            by_cases e : ∃ j, j ∈ edgesOf o ∧ dstAt ops j = some s
            · obtain ⟨j, hj, hdj⟩ := e
              exact (wS s j hsn (hrd j hj) hdj).symm
            · have hno : ∀ j, j ∈ edgesOf o → dstAt ops j ≠ some s := fun j hj hdj => e ⟨j, hj, hdj⟩
              rw [noedge s hs hsn hno]
              refine c.tt s (fun j hdj _ => ?_)
              rcases sp.slot i o s j ho hs hdj with h5 | h5
              · exact hno j h5 hdj
              · exact h5.2 hk
          exact ⟨v2, by rw [← aVal_congr a1S]; exact hv2, hd2⟩
      obtain ⟨v, hvS⟩ := hvS
      obtain ⟨nx, w', φ', e1, e2, e3, e4⟩ := simN c.r fS hvS.1
      refine ⟨fun f _ => FW_fn q f, ?_⟩
      rw [FW_round, Oper.semAt_eq _ _ _ (opK_defer hk0), e1]
      cases e4 with
      | val hvv =>
        refine fin e2.le (c.nx.trans e2) e3 hvv hvS.2 (fun j o' _ _ _ _ _ hb hn' => (e2.ghost _ hn' hb).1)
    · rw [if_pos (by rw [← hwq]; exact hw)]
      have halS : aAl P n tS o.op = some (al, mk) := by rw [← aAl_congr aS]; exact hal
      obtain ⟨hok, x, hx, hrun⟩ := al_run fS halS
      obtain ⟨hnone, hev⟩ := q4 hk3 hw
      obtain ⟨φ', le, e2, e3, e4⟩ := c.r.bindGhost hnone hb1 hb2 hok hx
      refine ⟨fun f _ => FW_fn q f, ?_⟩
      rw [FW_round, Oper.semAt_eq _ _ _ (opK_defer hk0), hrun]
      have nx' : Nx φ0 φ' h0 h1 := ⟨c.nx.le.trans le, c.nx.next, fun k hk hlt => by
        have := c.nx.ghost k hk hlt
        refine ⟨?_, this.2⟩
        rw [e3 k (fun e => ?_)]
        · exact this.1
        · subst e
          rcases c.bl i hi hE hdone with h5 | h5 <;> omega⟩
      exact fin le nx' e4 (Mk.rel hok e2) hd (fun j o' ho' hji hEj hdj hpj hb hn' => by
        rw [e3 (b j / 2) (by have := c.bb j i (Array.getElem?_eq_some_iff.1 ho').1 hi hEj hE hdj hdone hji; omega)]; exact hn')
    · rw [if_neg (by rw [← hwq, hw]; simp)]
      refine ⟨fun f _ => FW_fn q f, fin (Le.refl φ) c.nx c.r .undef hd (fun j o' _ _ _ _ _ _ hn' => hn')⟩
  | true =>
    have hL : ls.getD i 0 = L := by
      rcases Nat.lt_or_ge (ls.getD i 0) L with h5 | h5
      · exact (hun (c.ed i hi hE (.inl h5))).elim
      · omega
    have uniq : ∀ j, j < ops.size → isE ops j = true → ls.getD j 0 = L → j = i := by
      intro j hj hEj hLj
      rcases Nat.lt_trichotomy j i with h5 | h5 | h5
      · have := sp.tot i j hi hE hEj h5; omega
      · exact h5
      · have := sp.tot j i hj hEj hE h5; omega
    have hfe : lvE ops ls L = some i := by
      unfold lvE
      cases hq : (List.range ops.size).find? (fun i => isE ops i && decide (ls.getD i 0 = L)) with
      | none =>
        have := List.find?_eq_none.1 hq i (List.mem_range.2 hi)
        rw [hE] at this
        simp only [Bool.true_and, decide_eq_true_eq] at this
        exact (this hL).elim
      | some e =>
        have h5 := List.find?_some hq
        have h6 := List.mem_of_find?_eq_some hq
        simp only [Bool.and_eq_true, decide_eq_true_eq] at h5
        rw [uniq e (List.mem_range.1 h6) h5.1 h5.2]
    unfold aCont at hcont
    rw [hfe] at hcont
    dsimp only at hcont
    rw [ho] at hcont
    dsimp only at hcont
    -- what an edge leads from
    have up : ∀ {j : Nat} {o' : Oper}, ops[j]? = some o' → i ∈ edgesOf o' → L < ls.getD j 0 := by
      intro j o' ho' hj
      have := (sp.edge j o' i ho' hj).2
      unfold step1 at this
      rw [hE] at this
      simp only [if_true] at this
      omega
    have aS : ∀ s, s ∈ slots o.op → s < n → vt t1 s = vt tS s := by
      intro s hs hsn
      by_cases e : ∃ j, j ∈ edgesOf o ∧ dstAt ops j = some s
      · obtain ⟨j, hj, hd⟩ := e
        exact (wS s j hsn (hrd j hj) hd).symm
      · have hno : ∀ j, j ∈ edgesOf o → dstAt ops j ≠ some s := fun j hj hd => e ⟨j, hj, hd⟩
        rw [noedge s hs hsn hno]
        refine c.tt s (fun j hdj hdone => ?_)
        rcases sp.slot i o s j ho hs hdj with h5 | h5
        · exact hno j h5 hdj
        · have hjo : ops[j]? = some (ops[j]'(dstAt_lt hdj)) := Array.getElem?_eq_getElem (dstAt_lt hdj)
          have h6 := h5.1
          unfold edgeTo at h6
          rw [hjo] at h6
          have := up hjo (by simpa using h6)
          rcases hdone with h7 | h7 <;> omega
    have hw1 : aWant n t1 ops o = aWant n tS ops o := aWant_congr (fun s hg hsn => (gS s hg hsn).symm)
    have hcl' : ∀ (j : Nat) (o' : Oper), (lst j ∨ j = i) → ops[j]? = some o' → ∀ k, k ∈ edgesOf o' → (lst k ∨ k = i) := by
      intro j o' hl ho' k hk
      rcases hl with hl | hl
      · exact .inl (hcl j o' hl ho' k hk)
      · subst hl
        rw [ho] at ho'; cases ho'
        exact .inl (hrd k hk)
    have fin : ∀ {v v' : Value} {w' : World} {φ' : Phi} {h2 : AH} {t2 : T Value} {k' : Nat} {lo2 : List (T Value × AH)}, Nx φ φ' h1 h2 → R w0 φ' h2 w' → VR φ' v v' → aPut n t1 o.dst v = some t2 →
        aLv P call n ops ls ms k' (L + 1) ((seen ++ lvN ops ls L).filter fun j => !(ms.getD i 0).testBit j) t2 h2 = some lo2 → (∀ x, x ∈ lo2 → x ∈ l) → K (a.put o.dst v') w' := by
      intro v v' w' φ' h2 t2 k' lo2 nx r hv hput hlv hsub2
      have hvt := vt_put hput hn
      obtain ⟨p1, p2, p3, p4⟩ := c.put nx.le ho hv (t2 := t2) (fun s hs => by rw [hvt, if_neg hs]) (fun d hd => by rw [hvt, if_pos hd])
      have other : ∀ s j, dstAt ops j = some s → j ≠ i → vt t2 s = vt t1 s := fun s j hd hji => by
        rw [hvt, if_neg (fun e => hji ((sp.dst i s (by rw [hdi]; exact e)).2 j hd))]
      have lev_of : ∀ j, isE ops j = false → ls.getD j 0 < L + 1 → (ls.getD j 0 < L ∨ (isE ops j = false ∧ ls.getD j 0 = L)) := fun j hEj hj => by
        rcases Nat.lt_or_ge (ls.getD j 0) L with h5 | h5
        · exact .inl h5
        · exact .inr ⟨hEj, by omega⟩
      refine hK _ _ (enter_inv sp hn (b := b) ⟨fun j hj hl => ?_, fun j hj hEj hdj => ?_, r, c.nx.trans nx, p1, p2, p3, p4, fun s hs => ?_, fun j o' ho' hEj hdj hl => ?_, fun j j2 hj hj2 hEj hEj2 hd hd2 hne => c.bb j j2 hj hj2 hEj hEj2 (lev_of j hEj hd) (lev_of j2 hEj2 hd2) hne, fun j hj hEj hd => ?_, fun j o' ho' hkj hdj hl => ?_⟩ hlv hsub2)
      · rcases hl with hl | hl
        · rcases c.ld j hj hl with h5 | h5 <;> omega
        · subst hl; omega
      · by_cases e : j = i
        · exact .inr e
        · refine .inl (c.ed j hj hEj (.inl ?_))
          rcases Nat.lt_or_ge (ls.getD j 0) L with h5 | h5
          · exact h5
          · exact (e (uniq j hj hEj (by omega))).elim
      · rw [hvt, if_neg (fun e => hs i (by rw [hdi]; exact e) (by omega))]
        exact c.tt s (fun j hd hdone => hs j hd (by rcases hdone with h5 | h5 <;> omega))
      · have hji : j ≠ i := fun e => hl (.inr e)
        have hlv' := lev_of j hEj hdj
        obtain ⟨tq, hh, e1, e2, e3, e4⟩ := c.nn j o' ho' hEj hlv' (fun x => hl (.inl x))
        have notedge : i ∉ edgesOf o' := fun hin => by have := up ho' hin; rcases hlv' with h5 | h5 <;> omega
        have hdst : ∀ d, o'.dst = some d → vt t2 d = vt t1 d := fun d hd => other d j (by rw [dstAt_eq ho']; exact hd) hji
        refine ⟨tq, hh, fun s hs => ⟨fun k hk hd => ?_, (e1 s hs).2⟩, fun s hg => ?_, ?_, fun hk3 hw => ?_⟩
        · rw [(e1 s hs).1 k hk hd, other s k hd (fun e => notedge (e ▸ hk))]
        · rw [e2 s hg]
          unfold gslot at hg
          cases hq : o'.guard with
          | none => rw [hq] at hg; cases hg
          | some p =>
            obtain ⟨g, y⟩ := p
            rw [hq] at hg
            exact (other s g hg (fun e => notedge (e ▸ sp.guard j o' g y ho' hq))).symm
        · rcases e3 with ⟨hw, ⟨hk, v3, hv3, hd⟩ | ⟨hk, al, mk, hal, hb1, hb2, hd⟩⟩ | ⟨hw, hd⟩
          · exact .inl ⟨hw, .inl ⟨hk, v3, hv3, fun d hd' => by rw [hdst d hd', hd d hd']⟩⟩
          · have hg := nx.ghost (b j / 2) (e4 hk hw).1 hb1
            exact .inl ⟨hw, .inr ⟨hk, al, mk, hal, Nat.lt_of_lt_of_le hb1 nx.next, by rw [hg.2]; exact hb2, fun d hd' => by rw [hdst d hd', hd d hd']⟩⟩
          · exact .inr ⟨hw, fun d hd' => by rw [hdst d hd', hd d hd']⟩
        · have hb : b j / 2 < h1.next := by
            rcases e3 with ⟨_, ⟨hk, _⟩ | ⟨_, al, mk, _, hb, _⟩⟩ | ⟨hw', _⟩
            · omega
            · exact hb
            · rw [hw] at hw'; cases hw'
          exact ⟨(nx.ghost (b j / 2) (e4 hk3 hw).1 hb).1, (e4 hk3 hw).2⟩
      · rcases c.bl j hj hEj (lev_of j hEj hd) with h5 | h5
        · exact .inl ⟨h5.1, Nat.lt_of_lt_of_le h5.2.1 nx.next, h5.2.2⟩
        · exact .inr h5
      · have hEj : isE ops j = false := by rw [isE_of ho', hkj]; rfl
        refine List.mem_filter.2 ⟨c.sn j o' ho' hkj (lev_of j hEj hdj) (fun x => hl (.inl x)), ?_⟩
        cases hbit : (ms.getD i 0).testBit j with
        | false => rfl
        | true => exact (hl (mask_listed sp hcl' i j (.inr rfl) hi hbit)).elim
    by_cases hw : aWant n t1 ops o = true
    · rw [if_pos hw] at hcont
      rw [if_pos (by rw [← hw1]; exact hw)]
      obtain ⟨l0, hl0, hall⟩ := bindL_spec hcont
      refine step_ok hN hc c.r fS (l := l0) (by rw [← aStep_congr aS]; exact hl0) ?_
      intro v h2 v' w' φ' hm nx r hv
      obtain ⟨k3, hk3, hsub3⟩ := hall _ hm
      dsimp only at hk3
      split at hk3
      · rename_i t2 hput
        exact fin nx r hv hput hk3 (fun x hx => hsub x (hsub3 x hx))
      · cases hk3
    · rw [if_neg hw] at hcont
      rw [if_neg (by rw [← hw1]; exact hw)]
      split at hcont
      · rename_i t2 hput
        exact ⟨fun f _ => FW_fn q f, fin (.refl φ h1) c.r .undef hput hcont hsub⟩
      · cases hcont
end
end Go.X
