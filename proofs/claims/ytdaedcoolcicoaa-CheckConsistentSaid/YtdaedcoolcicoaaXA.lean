/- The closed evaluator, part A: structs, interfaces, equality, strings. -/
import Derived.Test.YtdaedcoolcicoaaX9
namespace Go.X
noncomputable section
open Go Go.RowKit
variable {w0 w w' : World} {φ φ' : Phi} {h h' : AH} {P : Program}

/-! Parts of structs. -/
def aPart (P : Program) (T : TypeId) (l : List Value) (off : Nat) : Option Value := match P.underlying T with
  | some d => if isAg d then (match szOf P T with
      | some k => some (.agg ⟨(l.take (off + k)).drop off⟩)
      | none => none) else l[off]?
  | none => none
theorem part_ok {T : TypeId} {l l' : List Value} {off : Nat} {v : Value} (hs : aPart P T l off = some v) (hl : LR φ l l') (w : World) : ∃ v', (part T ⟨l'⟩ off).run P w = .ok v' w ∧ VR φ v v' := by
  unfold aPart at hs
  split at hs
  · rename_i d hd
    unfold part
    simp only [Sem.run_bind, rA hd, Result.andThen_ok]
    split at hs
    · rename_i hag
      split at hs
      · rename_i k hk
        cases hs
        rw [hag]
        simp only [if_true, Sem.run_bind, rSz hk, Result.andThen_ok, Sem.run_pure]
        refine ⟨_, rfl, ?_⟩
        have e : (⟨l'⟩ : Array Value).extract off (off + k) = ⟨(l'.take (off + k)).drop off⟩ := by
          apply Array.ext'
          simp [List.drop_take]
        rw [e]
        exact .agg' ((hl.take _).drop _)
      · cases hs
    · rename_i hag
      simp only [Bool.not_eq_true] at hag
      rw [hag]
      obtain ⟨v', h1, h2⟩ := hl.get hs
      refine ⟨v', ?_, h2⟩
      simp [h1]
  · cases hs
theorem VR.agg_inv {l : List Value} {v : Value} (hv : VR φ (.agg ⟨l⟩) v) : ∃ l', v = .agg ⟨l'⟩ ∧ LR φ l l' := by
  cases hv with
  | agg ha h => exact ⟨_, rfl, LR.of ha h⟩
theorem VR.tuple_inv {l : List Value} {v : Value} (hv : VR φ (.tuple ⟨l⟩) v) : ∃ l', v = .tuple ⟨l'⟩ ∧ LR φ l l' := by
  cases hv with
  | tuple ha h => exact ⟨_, rfl, LR.of ha h⟩
def aFieldV (P : Program) (T : TypeId) (x : Value) (f : Nat) : Option Value := match P.underlying T, x with
  | some (.struct fs), .agg ⟨l⟩ => (match fs[f]? with
    | some fd => aPart P fd.type l fd.offset
    | none => none)
  | _, _ => none
theorem sim_fieldV (r : R w0 φ h w) {T : TypeId} {x x' v : Value} {f : Nat} (hs : aFieldV P T x f = some v) (hx : VR φ x x') : SimV w0 P φ h w (Instr.field T x' f) v h := by
  unfold aFieldV at hs
  split at hs
  · rename_i fs l hu
    split at hs
    · rename_i fd hf
      obtain ⟨l', rfl, hl⟩ := hx.agg_inv
      obtain ⟨v', h1, h2⟩ := part_ok hs hl w
      refine .here r ?_ h2
      simp only [Instr.field, Sem.run_bind, run_underlying hu, Result.andThen_ok, hf, asAgg, Sem.run_pure, h1]
    · cases hs
  · cases hs
def aIndexV (P : Program) (T : TypeId) (x i : Value) : Option Value := match P.underlying T, x, i with
  | some (.array n el), .agg ⟨l⟩, .int _ j => if 0 ≤ j ∧ j < n then (match szOf P el with
      | some k => aPart P el l (j.toNat * k)
      | none => none) else none
  | some .string, .string s, .int _ j => if 0 ≤ j then (match s.data.toList[j.toNat]? with
      | some b => some (.int .u8 b.toNat)
      | none => none) else none
  | _, _, _ => none
theorem sim_indexV (r : R w0 φ h w) {T : TypeId} {x x' i i' v : Value} (hs : aIndexV P T x i = some v) (hx : VR φ x x') (hi : VR φ i i') : SimV w0 P φ h w (Instr.index T x' i') v h := by
  unfold aIndexV at hs
  split at hs
  · rename_i n el l k j hu
    split at hs
    · rename_i hc
      split at hs
      · rename_i k hk
        obtain ⟨l', rfl, hl⟩ := hx.agg_inv
        obtain rfl := hi.int_inv
        obtain ⟨v', h1, h2⟩ := part_ok hs hl w
        refine .here r ?_ h2
        simp only [Instr.index, asIntOf, Sem.run_pure, Sem.run_bind, run_underlying hu, Result.andThen_ok]
        rw [if_pos hc]
        simp only [Sem.run_bind, rSz hk, Result.andThen_ok, h1]
      · cases hs
    · cases hs
  · rename_i s k j hu
    split at hs
    · rename_i hc
      split at hs
      · rename_i b hb
        cases hs
        cases hx
        obtain rfl := hi.int_inv
        refine .here r (v' := .int .u8 b.toNat) ?_ (.int _ _)
        have hb' : s[j.toNat]? = some b := by
          have hlt := (List.getElem?_eq_some_iff.1 hb).1
          have hlt2 : j.toNat < s.size := by rw [Array.length_toList] at hlt; exact hlt
          rw [getElem?_pos s j.toNat hlt2]
          rw [List.getElem?_eq_getElem hlt] at hb
          have : s[j.toNat] = s.data[j.toNat]'hlt2 := rfl
          rw [this]; simpa using hb
        simp only [Instr.index, asIntOf, Sem.run_pure, Sem.run_bind, run_underlying hu, Result.andThen_ok]
        rw [if_pos hc, hb']
        rfl
      · cases hs
    · cases hs
  · cases hs

/-! Structs that are built. -/
def splice (l : List Value) (off : Nat) (v : List Value) : List Value := l.take off ++ v ++ l.drop (off + v.length)
theorem LR.splice {l l' v v' : List Value} (hl : LR φ l l') (hv : LR φ v v') (off : Nat) : LR φ (X.splice l off v) (X.splice l' off v') := by
  unfold X.splice
  rw [← hv.length]
  exact ((hl.take _).append hv).append (hl.drop _)
def aFill (place : Nat → Option (Nat × Nat)) (cells : List Value) : List (Nat × Value) → Option (List Value)
  | [] => some cells
  | (i, v) :: rest => match place i with
    | none => none
    | some (off, size) => if (cellsL v).length ≠ size ∨ off + (cellsL v).length > cells.length then none else aFill place (splice cells off (cellsL v)) rest
theorem foldl_splice : ∀ (vs : List Value) (cells : List Value) (off q : Nat), off + q + vs.length ≤ cells.length →
    (vs.zipIdx q).foldl (fun (cs : Array Value) (p : Value × Nat) => cs.setIfInBounds (off + p.2) p.1) ⟨cells⟩ = ⟨splice cells (off + q) vs⟩
  | [], cells, off, q, h => by simp [splice]
  | v :: vs, cells, off, q, h => by
    simp only [List.length_cons] at h
    simp only [List.zipIdx_cons, List.foldl_cons]
    have e : (⟨cells⟩ : Array Value).setIfInBounds (off + q) v = ⟨cells.set (off + q) v⟩ := by apply Array.ext'; simp
    rw [e, foldl_splice vs _ off (q + 1) (by simp; omega)]
    congr 1
    unfold splice
    apply List.ext_getElem?
    intro j
    simp only [List.length_cons]
    have hl : off + q < cells.length := by omega
    by_cases h1 : j < off + q
    · rw [List.getElem?_append_left (by simp; omega), List.getElem?_append_left (by simp; omega), List.getElem?_take, if_pos (by omega), List.getElem?_set_ne (by omega),
        List.getElem?_append_left (by simp; omega), List.getElem?_append_left (by simp; omega), List.getElem?_take, if_pos h1]
    · by_cases h2 : j = off + q
      · subst h2
        rw [List.getElem?_append_left (by simp; omega), List.getElem?_append_left (by simp; omega), List.getElem?_take, if_pos (by omega), List.getElem?_set_self (by omega)]
        rw [List.getElem?_append_left (by simp; omega), List.getElem?_append_right (by simp; omega)]
        simp [Nat.min_eq_left (Nat.le_of_lt hl)]
      · by_cases h3 : j < off + q + 1 + vs.length
        · rw [List.getElem?_append_left (by simp; omega), List.getElem?_append_right (by simp; omega), List.getElem?_append_left (by simp; omega), List.getElem?_append_right (by simp; omega)]
          simp only [List.length_take, List.length_set]
          rw [show min (off + (q + 1)) cells.length = off + q + 1 by omega, show min (off + q) cells.length = off + q by omega]
          rw [show j - (off + q) = (j - (off + q + 1)) + 1 by omega]
          simp
        · rw [List.getElem?_append_right (by simp; omega), List.getElem?_append_right (by simp; omega)]
          simp only [List.length_append, List.length_take, List.length_set, List.length_cons, List.getElem?_drop]
          rw [List.getElem?_set_ne (by omega)]
          congr 1
          omega
theorem fill_ok {place : Nat → Option (Nat × Nat)} : ∀ (parts parts' : List (Nat × Value)) {cells cells' out : List Value}, aFill place cells parts = some out → LR φ cells cells' →
    (parts.length = parts'.length ∧ ∀ (k : Nat) (p p' : Nat × Value), parts[k]? = some p → parts'[k]? = some p' → p.1 = p'.1 ∧ VR φ p.2 p'.2) →
    ∃ out', Instr.fill place ⟨cells'⟩ parts' = some ⟨out'⟩ ∧ LR φ out out'
  | [], parts', cells, cells', out, hs, hc, hp => by
    have : parts' = [] := List.eq_nil_of_length_eq_zero (by simpa using hp.1.symm)
    subst this
    simp only [aFill] at hs
    cases hs
    exact ⟨cells', rfl, hc⟩
  | (i, v) :: rest, [], cells, cells', out, hs, hc, hp => by simp at hp
  | (i, v) :: rest, (i', v') :: rest', cells, cells', out, hs, hc, hp => by
    have h0 := hp.2 0 (i, v) (i', v') rfl rfl
    obtain ⟨rfl, hv⟩ := h0
    simp only [aFill] at hs
    simp only [Instr.fill]
    cases hpl : place i with
    | none => rw [hpl] at hs; cases hs
    | some p =>
      obtain ⟨off, size⟩ := p
      rw [hpl] at hs
      dsimp only at hs ⊢
      split at hs
      · cases hs
      · rename_i hcond
        have hsz : v'.cells.size = (cellsL v).length := by rw [cells_eq, hv.cells.length]; rfl
        have hcl : (⟨cells'⟩ : Array Value).size = cells.length := by rw [hc.length]; rfl
        rw [if_neg (by rw [hsz, hcl]; simpa only [Bool.or_eq_true, decide_eq_true_eq] using hcond)]
        have hfold : v'.cells.zipIdx.foldl (fun cs (c, j) => cs.setIfInBounds (off + j) c) (⟨cells'⟩ : Array Value) = ⟨splice cells' off (cellsL v')⟩ := by
          have := foldl_splice (cellsL v') cells' off 0 (by
            have e1 := hv.cells.length
            have e2 := hc.length
            dsimp only at e1 hcond
            omega)
          rw [Nat.add_zero] at this
          rw [← this, cells_eq, ← Array.foldl_toList]
          simp
        rw [hfold]
        exact fill_ok rest rest' hs (hc.splice hv.cells off) ⟨by simpa using hp.1, fun k p p' h1 h2 => hp.2 (k + 1) p p' (by simpa using h1) (by simpa using h2)⟩
def aPlaces (P : Program) : List Field → Option (List (Nat × Nat))
  | [] => some []
  | f :: fs => match szOf P f.type, aPlaces P fs with
    | some k, some l => some ((f.offset, k) :: l)
    | _, _ => none
theorem places_ok : ∀ {fs : List Field} {l : List (Nat × Nat)}, aPlaces P fs = some l → ∀ (w : World), ((⟨fs⟩ : Array Field).mapM (m := Sem) fun f => do pure (f.offset, ← sizeOf f.type)).run P w = .ok ⟨l⟩ w := by
  intro fs
  have key : ∀ (fs : List Field) {l : List (Nat × Nat)}, aPlaces P fs = some l → ∀ (w : World), (fs.mapM (m := Sem) fun f => do pure (f.offset, ← sizeOf f.type)).run P w = .ok l w := by
    intro fs
    induction fs with
    | nil => intro l h w; simp only [aPlaces] at h; cases h; simp
    | cons f fs ih =>
      intro l h w
      simp only [aPlaces] at h
      split at h
      · rename_i k l' hk hl
        cases h
        rw [List.mapM_cons]
        simp only [Sem.run_bind, rSz hk, Result.andThen_ok, Sem.run_pure, ih hl]
      · cases h
  intro l h w
  have : (⟨fs⟩ : Array Field).mapM (m := Sem) (fun f => do pure (f.offset, ← sizeOf f.type)) = List.toArray <$> (fs.mapM (m := Sem) fun f => do pure (f.offset, ← sizeOf f.type)) := List.mapM_toArray
  rw [this]
  have e : (List.toArray <$> (fs.mapM (m := Sem) fun f => do pure (f.offset, ← sizeOf f.type)) : Sem (Array (Nat × Nat))) = (fs.mapM (m := Sem) fun f => do pure (f.offset, ← sizeOf f.type)) >>= fun l => pure l.toArray := rfl
  rw [e, Sem.run_bind, key fs h, Result.andThen_ok]
  rfl
def aParts (P : Program) (T : TypeId) : Option (Nat → Option (Nat × Nat)) := match P.underlying T with
  | some (.struct ⟨fs⟩) => (match aPlaces P fs with
    | some l => some (fun i => l[i]?)
    | none => none)
  | some (.array _ el) => (match szOf P el with
    | some k => some (fun i => some (i * k, k))
    | none => none)
  | _ => none
def aBuild (P : Program) (T : TypeId) (parts : List (Nat × Value)) : Option Value := match zeroOf P T, aParts P T with
  | some z, some pl => (match aFill pl (cellsL z) parts with
    | some l => some (.agg ⟨l⟩)
    | none => none)
  | _, _ => none
/-- Parts that stand for one another. -/
inductive PR (φ : Phi) : List (Nat × Value) → List (Nat × Value) → Prop
  | nil : PR φ [] []
  | cons {i : Nat} {v v' : Value} {l l' : List (Nat × Value)} (h : VR φ v v') (t : PR φ l l') : PR φ ((i, v) :: l) ((i, v') :: l')
theorem PR.two {l l' : List (Nat × Value)} (h : PR φ l l') : l.length = l'.length ∧ ∀ (k : Nat) (p p' : Nat × Value), l[k]? = some p → l'[k]? = some p' → p.1 = p'.1 ∧ VR φ p.2 p'.2 := by
  induction h with
  | nil => exact ⟨rfl, fun k p p' h1 => by simp at h1⟩
  | cons h t ih =>
    refine ⟨by simp [ih.1], fun k p p' h1 h2 => ?_⟩
    cases k with
    | zero => simp at h1 h2; subst h1; subst h2; exact ⟨rfl, h⟩
    | succ k => exact ih.2 k p p' (by simpa using h1) (by simpa using h2)
theorem sim_build (r : R w0 φ h w) {T : TypeId} {parts parts' : List (Nat × Value)} {v : Value} (hs : aBuild P T parts = some v) (hp : PR φ parts parts') : SimV w0 P φ h w (Instr.build T ⟨parts'⟩) v h := by
  unfold aBuild at hs
  split at hs
  · rename_i z pl hz hpl
    split at hs
    · rename_i l hl
      cases hs
      obtain ⟨hz1, hz2⟩ := rZero hz w
      obtain ⟨out', h1, h2⟩ := fill_ok parts parts' hl (pfv_refl φ hz2).cells hp.two
      refine .here r (v' := .agg ⟨out'⟩) ?_ (.agg' h2)
      unfold aParts at hpl
      unfold Instr.build
      simp only [Sem.run_bind, hz1, Result.andThen_ok, cells_eq]
      split at hpl
      · rename_i fs hu
        split at hpl
        · rename_i pls hpls
          cases hpl
          simp only [run_underlying hu, Result.andThen_ok, Sem.run_bind, places_ok hpls]
          have e : (fun i => (⟨pls⟩ : Array (Nat × Nat))[i]?) = fun (i : Nat) => pls[i]? := by funext i; simp
          rw [e, h1]
          rfl
        · cases hpl
      · rename_i n el hu
        split at hpl
        · rename_i k hk
          cases hpl
          simp only [run_underlying hu, Result.andThen_ok, Sem.run_bind, rSz hk, h1]
          rfl
        · cases hpl
      · cases hpl
    · cases hs
  · cases hs
def aBuildSlice (P : Program) (T : TypeId) (len : Nat) (parts : List (Nat × Value)) (h : AH) : Option (Value × AH) := match P.underlying T with
  | some (.slice el) => (match szOf P el, zeroOf P el with
    | some k, some z => if len * k ≤ 16777216 ∧ (cellsL z).length = k then (match aFill (fun i => some (i * k, k)) (zrep len (cellsL z)) parts with
      | some l => aRow l h len len
      | none => none) else none
    | _, _ => none)
  | _ => none
theorem sim_buildSlice (r : R w0 φ h w) {T : TypeId} {len : Nat} {parts parts' : List (Nat × Value)} {v : Value} (hs : aBuildSlice P T len parts h = some (v, h')) (hp : PR φ parts parts') :
    SimV w0 P φ h w (Instr.buildSlice T len ⟨parts'⟩) v h' := by
  unfold aBuildSlice at hs
  split at hs
  · rename_i el hu
    split at hs
    · rename_i k z hk hz
      split at hs
      · rename_i hc
        split at hs
        · rename_i l hl
          obtain ⟨hz1, hz2⟩ := rZero hz w
          obtain ⟨out', h1, h2⟩ := fill_ok parts parts' hl (zrep_rel (pfv_refl φ hz2).cells len) hp.two
          refine sim_row (P := P) r hs h2 el ?_
          unfold Instr.buildSlice
          simp only [Sem.run_bind, run_underlying hu, Result.andThen_ok, rSz hk]
          rw [if_neg (by omega)]
          by_cases hn : len * k = 0
          · have ez : zrep len (cellsL z) = [] := List.eq_nil_of_length_eq_zero (by rw [zrep_len, hc.2]; exact hn)
            have er : (Array.range (len * k)).map (fun i => (#[] : Array Value)[i % (#[] : Array Value).size]!) = ⟨[]⟩ := by
              rw [hn]
              have : Array.range 0 = (#[] : Array Nat) := Array.eq_empty_of_size_eq_zero (by simp)
              rw [this]; simp
            rw [ez] at h1
            rw [if_pos hn]
            simp only [Sem.run_pure, Sem.run_bind, Result.andThen_ok, er, h1, newRow, run_newObj_alloc]
          · rw [if_neg hn]
            simp only [Sem.run_pure, Sem.run_bind, Result.andThen_ok, hz1]
            rw [zarr (by rw [hc.2]), h1]
            simp only [Sem.run_pure, Sem.run_bind, Result.andThen_ok, newRow, run_newObj_alloc]
        · cases hs
      · cases hs
    · cases hs
  · cases hs

/-! Interfaces and tuples. -/
def aMkI (P : Program) (T : TypeId) (x : Value) : Option Value := match P.underlying T with
  | some (.interface _) => none
  | some _ => some (.iface T x)
  | none => none
theorem sim_mkI (r : R w0 φ h w) {T : TypeId} {x x' v : Value} (hs : aMkI P T x = some v) (hx : VR φ x x') : SimV w0 P φ h w (Instr.makeInterface T x') v h := by
  unfold aMkI at hs
  split at hs
  · cases hs
  · rename_i d hd hu
    cases hs
    refine .here r (v' := .iface T x') ?_ (.iface hx)
    unfold Instr.makeInterface
    simp only [Sem.run_bind, run_underlying hu, Result.andThen_ok]
    cases d <;> first | rfl | exact (hd _ rfl).elim
  · cases hs
def aExtract (x : Value) (i : Nat) : Option Value := match x with
  | .tuple ⟨l⟩ => l[i]?
  | _ => none
theorem sim_extract (r : R w0 φ h w) {x x' v : Value} {i : Nat} (hs : aExtract x i = some v) (hx : VR φ x x') : SimV w0 P φ h w (Instr.extract x' i) v h := by
  unfold aExtract at hs
  split at hs
  · rename_i l
    obtain ⟨l', rfl, hl⟩ := hx.tuple_inv
    obtain ⟨v', h1, h2⟩ := hl.get hs
    exact .here r (by simp [Instr.extract, h1]) h2
  · cases hs
def aAssert (P : Program) (x : Value) (T : TypeId) (c : Bool) : Option Value := match P.underlying T with
  | some (.interface want) => (match x with
    | .nilIface => if c then (match zeroOf P T with | some z => some (.tuple #[z, .bool false]) | none => none) else none
    | .iface t _ => (match P.info? t with
      | some i => (match Instr.missingMethod want i.methods with
        | none => some (tupOk c x true)
        | some _ => if c then (match zeroOf P T with | some z => some (.tuple #[z, .bool false]) | none => none) else none)
      | none => none)
    | _ => none)
  | some _ => (match x with
    | .nilIface => if c then (match zeroOf P T with | some z => some (.tuple #[z, .bool false]) | none => none) else none
    | .iface t v => if t = T then some (tupOk c v true) else if c then (match zeroOf P T with | some z => some (.tuple #[z, .bool false]) | none => none) else none
    | _ => none)
  | none => none
theorem sim_assert (r : R w0 φ h w) {xT T : TypeId} {x x' v : Value} {c : Bool} (hs : aAssert P x T c = some v) (hx : VR φ x x') : SimV w0 P φ h w (Instr.typeAssert x' xT T c) v h := by
  have fails : ∀ {v : Value}, (if c then (match zeroOf P T with | some z => some (.tuple #[z, .bool false]) | none => none) else none) = some v → ∃ z, c = true ∧ v = .tuple #[z, .bool false] ∧ (zeroValue T).run P w = .ok z w ∧ VR φ z z := by
    intro v hv
    split at hv
    · rename_i hc
      split at hv
      · rename_i z hz
        cases hv
        obtain ⟨hz1, hz2⟩ := rZero hz w
        exact ⟨z, hc, rfl, hz1, pfv_refl φ hz2⟩
      · cases hv
    · cases hv
  unfold aAssert at hs
  split at hs
  · rename_i want hu
    split at hs
    · cases hx
      obtain ⟨z, hc, rfl, h1, h2⟩ := fails hs
      subst hc
      refine .here r (v' := .tuple #[z, .bool false]) ?_ (.tuple' (.cons h2 (.cons (.bool _) .nil)))
      simp [Instr.typeAssert, run_underlying hu, h1]
    · rename_i t v0
      split at hs
      · rename_i i hi
        have hx' : ∃ v', x' = .iface t v' := by cases hx; exact ⟨_, rfl⟩
        obtain ⟨v', rfl⟩ := hx'
        split at hs
        · rename_i hm
          cases hs
          refine .here r (v' := tupOk c (.iface t v') true) ?_ (tupOk_rel hx)
          simp [Instr.typeAssert, run_underlying hu, rI hi, hm, tupOk]
        · rename_i m hm
          obtain ⟨z, hc, rfl, h1, h2⟩ := fails hs
          subst hc
          refine .here r (v' := .tuple #[z, .bool false]) ?_ (.tuple' (.cons h2 (.cons (.bool _) .nil)))
          simp [Instr.typeAssert, run_underlying hu, rI hi, hm, h1]
      · cases hs
    · cases hs
  · rename_i d hd hu
    split at hs
    · cases hx
      obtain ⟨z, hc, rfl, h1, h2⟩ := fails hs
      subst hc
      refine .here r (v' := .tuple #[z, .bool false]) ?_ (.tuple' (.cons h2 (.cons (.bool _) .nil)))
      cases d <;> first | exact (hd _ rfl).elim | simp [Instr.typeAssert, run_underlying hu, h1]
    · rename_i t v0
      have hx' : ∃ v', x' = .iface t v' ∧ VR φ v0 v' := by cases hx with | iface h => exact ⟨_, rfl, h⟩
      obtain ⟨v', rfl, hv⟩ := hx'
      split at hs
      · rename_i ht
        cases hs
        subst ht
        refine .here r (v' := tupOk c v' true) ?_ (tupOk_rel hv)
        cases d <;> first | exact (hd _ rfl).elim | simp [Instr.typeAssert, run_underlying hu, tupOk]
      · rename_i ht
        obtain ⟨z, hc, rfl, h1, h2⟩ := fails hs
        subst hc
        refine .here r (v' := .tuple #[z, .bool false]) ?_ (.tuple' (.cons h2 (.cons (.bool _) .nil)))
        cases d <;> first | exact (hd _ rfl).elim | simp [Instr.typeAssert, run_underlying hu, h1, ht]
    · cases hs
  · cases hs
end
end Go.X
