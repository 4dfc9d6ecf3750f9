/- Parts of the closed evaluator. -/
import Derived.Test.YtlgakeilplnfmaaGreatDoorZb
import Derived.Lib.Builder
import Derived.Lib.UnsafeStr
import Derived.RangeFuncRecord
import Derived.OrdersIn
import Derived.Lib.ConvBytes
namespace Go.X
noncomputable section
open Go Go.RowKit
variable {w0 w w' : World} {φ φ' : Phi} {h h' : AH} {P : Program}
def aPart (P : Program) (T : TypeId) (l : List Value) (off : Nat) : Option Value := match P.underlying T with
 | some d => if isAg d then (match szOf P T with
  | some k => some (.agg ⟨(l.take (off + k)).drop off⟩)
  | none => none) else l[off]?
 | none => none
theorem part_ok {T : TypeId} {l l' : List Value} {off : Nat} {v : Value} (hs : aPart P T l off = some v) (hl : LR φ l l') (w : World) : ∃ v', (part T ⟨l'⟩ off).run P w = .ok v' w ∧ VR φ v v' := by
 unfold aPart at hs
 split at hs
 · rename_i d hd
   unfold part
   simp only [Sem.run_bind, rA hd, Result.andThen_ok]
   split at hs
   · rename_i hag
     split at hs
     · rename_i k hk
       cases hs
       rw [hag]
       simp only [if_true, Sem.run_bind, rSz hk, Result.andThen_ok, Sem.run_pure]
       refine ⟨_, rfl, ?_⟩
       have e : (⟨l'⟩ : Array Value).extract off (off + k) = ⟨(l'.take (off + k)).drop off⟩ := by
        apply Array.ext'
        simp [List.drop_take]
       rw [e]
       exact .agg' ((hl.take _).drop _)
     · cases hs
   · rename_i hag
     simp only [Bool.not_eq_true] at hag
     rw [hag]
     obtain ⟨v', h1, h2⟩ := hl.get hs
     refine ⟨v', ?_, h2⟩
     simp [h1]
 · cases hs
theorem VR.agg_inv {l : List Value} {v : Value} (hv : VR φ (.agg ⟨l⟩) v) : ∃ l', v = .agg ⟨l'⟩ ∧ LR φ l l' := by
 cases hv with
 | agg ha h => exact ⟨_, rfl, LR.of ha h⟩
theorem VR.tuple_inv {l : List Value} {v : Value} (hv : VR φ (.tuple ⟨l⟩) v) : ∃ l', v = .tuple ⟨l'⟩ ∧ LR φ l l' := by
 cases hv with
 | tuple ha h => exact ⟨_, rfl, LR.of ha h⟩
def aFieldV (P : Program) (T : TypeId) (x : Value) (f : Nat) : Option Value := match P.underlying T, x with
 | some (.struct fs), .agg ⟨l⟩ => (match fs[f]? with
  | some fd => aPart P fd.type l fd.offset
  | none => none)
 | _, _ => none
theorem sim_fieldV (r : R w0 φ h w) {T : TypeId} {x x' v : Value} {f : Nat} (hs : aFieldV P T x f = some v) (hx : VR φ x x') : SimV w0 P φ h w (Instr.field T x' f) v h := by
 unfold aFieldV at hs
 split at hs
 · rename_i fs l hu
   split at hs
   · rename_i fd hf
     obtain ⟨l', rfl, hl⟩ := hx.agg_inv
     obtain ⟨v', h1, h2⟩ := part_ok hs hl w
     refine .here r ?_ h2
     simp only [Instr.field, Sem.run_bind, run_underlying hu, Result.andThen_ok, hf, asAgg, Sem.run_pure, h1]
   · cases hs
 · cases hs
def aIndexV (P : Program) (T : TypeId) (x i : Value) : Option Value := match P.underlying T, x, i with
 | some (.array n el), .agg ⟨l⟩, .int _ j => if 0 ≤ j ∧ j < n then (match szOf P el with
  | some k => aPart P el l (j.toNat * k)
  | none => none) else none
 | some .string, .string s, .int _ j => if 0 ≤ j then (match s.data.toList[j.toNat]? with
  | some b => some (.int .u8 b.toNat)
  | none => none) else none
 | _, _, _ => none
theorem sim_indexV (r : R w0 φ h w) {T : TypeId} {x x' i i' v : Value} (hs : aIndexV P T x i = some v) (hx : VR φ x x') (hi : VR φ i i') : SimV w0 P φ h w (Instr.index T x' i') v h := by
 unfold aIndexV at hs
 split at hs
 · rename_i n el l k j hu
   split at hs
   · rename_i hc
     split at hs
     · rename_i k hk
       obtain ⟨l', rfl, hl⟩ := hx.agg_inv
       obtain rfl := hi.int_inv
       obtain ⟨v', h1, h2⟩ := part_ok hs hl w
       refine .here r ?_ h2
       simp only [Instr.index, asIntOf, Sem.run_pure, Sem.run_bind, run_underlying hu, Result.andThen_ok]
       rw [if_pos hc]
       simp only [Sem.run_bind, rSz hk, Result.andThen_ok, h1]
     · cases hs
   · cases hs
 · rename_i s k j hu
   split at hs
   · rename_i hc
     split at hs
     · rename_i b hb
       cases hs
       cases hx
       obtain rfl := hi.int_inv
       refine .here r (v' := .int .u8 b.toNat) ?_ (.int _ _)
       have hb' : s[j.toNat]? = some b := by
        have hlt := (List.getElem?_eq_some_iff.1 hb).1
        have hlt2 : j.toNat < s.size := by rw [Array.length_toList] at hlt; exact hlt
        rw [getElem?_pos s j.toNat hlt2]
        rw [List.getElem?_eq_getElem hlt] at hb
        have : s[j.toNat] = s.data[j.toNat]'hlt2 := rfl
        rw [this]; simpa using hb
       simp only [Instr.index, asIntOf, Sem.run_pure, Sem.run_bind, run_underlying hu, Result.andThen_ok]
       rw [if_pos hc, hb']
       rfl
     · cases hs
   · cases hs
 · cases hs
def splice (l : List Value) (off : Nat) (v : List Value) : List Value := l.take off ++ v ++ l.drop (off + v.length)
theorem LR.splice {l l' v v' : List Value} (hl : LR φ l l') (hv : LR φ v v') (off : Nat) : LR φ (X.splice l off v) (X.splice l' off v') := by
 unfold X.splice
 rw [← hv.length]
 exact ((hl.take _).append hv).append (hl.drop _)
def aFill (place : Nat → Option (Nat × Nat)) (cells : List Value) : List (Nat × Value) → Option (List Value)
 | [] => some cells
 | (i, v) :: rest => match place i with
  | none => none
  | some (off, size) => if (cellsL v).length ≠ size ∨ off + (cellsL v).length > cells.length then none else aFill place (splice cells off (cellsL v)) rest
theorem foldl_splice : ∀ (vs : List Value) (cells : List Value) (off q : Nat), off + q + vs.length ≤ cells.length →
  (vs.zipIdx q).foldl (fun (cs : Array Value) (p : Value × Nat) => cs.setIfInBounds (off + p.2) p.1) ⟨cells⟩ = ⟨splice cells (off + q) vs⟩
 | [], cells, off, q, h => by simp [splice]
 | v :: vs, cells, off, q, h => by
  simp only [List.length_cons] at h
  simp only [List.zipIdx_cons, List.foldl_cons]
  have e : (⟨cells⟩ : Array Value).setIfInBounds (off + q) v = ⟨cells.set (off + q) v⟩ := by apply Array.ext'; simp
  rw [e, foldl_splice vs _ off (q + 1) (by simp; omega)]
  congr 1
  unfold splice
  apply List.ext_getElem?
  intro j
  simp only [List.length_cons]
  have hl : off + q < cells.length := by omega
  by_cases h1 : j < off + q
  · rw [List.getElem?_append_left (by simp; omega), List.getElem?_append_left (by simp; omega), List.getElem?_take, if_pos (by omega), List.getElem?_set_ne (by omega),
      List.getElem?_append_left (by simp; omega), List.getElem?_append_left (by simp; omega), List.getElem?_take, if_pos h1]
  · by_cases h2 : j = off + q
    · subst h2
      rw [List.getElem?_append_left (by simp; omega), List.getElem?_append_left (by simp; omega), List.getElem?_take, if_pos (by omega), List.getElem?_set_self (by omega)]
      rw [List.getElem?_append_left (by simp; omega), List.getElem?_append_right (by simp; omega)]
      simp [Nat.min_eq_left (Nat.le_of_lt hl)]
    · by_cases h3 : j < off + q + 1 + vs.length
      · rw [List.getElem?_append_left (by simp; omega), List.getElem?_append_right (by simp; omega), List.getElem?_append_left (by simp; omega), List.getElem?_append_right (by simp; omega)]
        simp only [List.length_take, List.length_set]
        rw [show min (off + (q + 1)) cells.length = off + q + 1 by omega, show min (off + q) cells.length = off + q by omega]
        rw [show j - (off + q) = (j - (off + q + 1)) + 1 by omega]
        simp
      · rw [List.getElem?_append_right (by simp; omega), List.getElem?_append_right (by simp; omega)]
        simp only [List.length_append, List.length_take, List.length_set, List.length_cons, List.getElem?_drop]
        rw [List.getElem?_set_ne (by omega)]
        congr 1
        omega
theorem fill_ok {place : Nat → Option (Nat × Nat)} : ∀ (parts parts' : List (Nat × Value)) {cells cells' out : List Value}, aFill place cells parts = some out → LR φ cells cells' →
  (parts.length = parts'.length ∧ ∀ (k : Nat) (p p' : Nat × Value), parts[k]? = some p → parts'[k]? = some p' → p.1 = p'.1 ∧ VR φ p.2 p'.2) →
  ∃ out', Instr.fill place ⟨cells'⟩ parts' = some ⟨out'⟩ ∧ LR φ out out'
 | [], parts', cells, cells', out, hs, hc, hp => by
  have : parts' = [] := List.eq_nil_of_length_eq_zero (by simpa using hp.1.symm)
  subst this
  simp only [aFill] at hs
  cases hs
  exact ⟨cells', rfl, hc⟩
 | (i, v) :: rest, [], cells, cells', out, hs, hc, hp => by simp at hp
 | (i, v) :: rest, (i', v') :: rest', cells, cells', out, hs, hc, hp => by
  have h0 := hp.2 0 (i, v) (i', v') rfl rfl
  obtain ⟨rfl, hv⟩ := h0
  simp only [aFill] at hs
  simp only [Instr.fill]
  cases hpl : place i with
  | none => rw [hpl] at hs; cases hs
  | some p =>
   obtain ⟨off, size⟩ := p
   rw [hpl] at hs
   dsimp only at hs ⊢
   split at hs
   · cases hs
   · rename_i hcond
     have hsz : v'.cells.size = (cellsL v).length := by rw [cells_eq, hv.cells.length]; rfl
     have hcl : (⟨cells'⟩ : Array Value).size = cells.length := by rw [hc.length]; rfl
     rw [if_neg (by rw [hsz, hcl]; simpa only [Bool.or_eq_true, decide_eq_true_eq] using hcond)]
     have hfold : v'.cells.zipIdx.foldl (fun cs (c, j) => cs.setIfInBounds (off + j) c) (⟨cells'⟩ : Array Value) = ⟨splice cells' off (cellsL v')⟩ := by
      have := foldl_splice (cellsL v') cells' off 0 (by
       have e1 := hv.cells.length
       have e2 := hc.length
       dsimp only at e1 hcond
       omega)
      rw [Nat.add_zero] at this
      rw [← this, cells_eq, ← Array.foldl_toList]
      simp
     rw [hfold]
     exact fill_ok rest rest' hs (hc.splice hv.cells off) ⟨by simpa using hp.1, fun k p p' h1 h2 => hp.2 (k + 1) p p' (by simpa using h1) (by simpa using h2)⟩
def aPlaces (P : Program) : List Field → Option (List (Nat × Nat))
 | [] => some []
 | f :: fs => match szOf P f.type, aPlaces P fs with
  | some k, some l => some ((f.offset, k) :: l)
  | _, _ => none
theorem places_ok : ∀ {fs : List Field} {l : List (Nat × Nat)}, aPlaces P fs = some l → ∀ (w : World), ((⟨fs⟩ : Array Field).mapM (m := Sem) fun f => do pure (f.offset, ← sizeOf f.type)).run P w = .ok ⟨l⟩ w := by
 intro fs
 have key : ∀ (fs : List Field) {l : List (Nat × Nat)}, aPlaces P fs = some l → ∀ (w : World), (fs.mapM (m := Sem) fun f => do pure (f.offset, ← sizeOf f.type)).run P w = .ok l w := by
  intro fs
  induction fs with
  | nil => intro l h w; simp only [aPlaces] at h; cases h; simp
  | cons f fs ih =>
   intro l h w
   simp only [aPlaces] at h
   split at h
   · rename_i k l' hk hl
     cases h
     rw [List.mapM_cons]
     simp only [Sem.run_bind, rSz hk, Result.andThen_ok, Sem.run_pure, ih hl]
   · cases h
 intro l h w
 have : (⟨fs⟩ : Array Field).mapM (m := Sem) (fun f => do pure (f.offset, ← sizeOf f.type)) = List.toArray <$> (fs.mapM (m := Sem) fun f => do pure (f.offset, ← sizeOf f.type)) := List.mapM_toArray
 rw [this]
 have e : (List.toArray <$> (fs.mapM (m := Sem) fun f => do pure (f.offset, ← sizeOf f.type)) : Sem (Array (Nat × Nat))) = (fs.mapM (m := Sem) fun f => do pure (f.offset, ← sizeOf f.type)) >>= fun l => pure l.toArray := rfl
 rw [e, Sem.run_bind, key fs h, Result.andThen_ok]
 rfl
def aParts (P : Program) (T : TypeId) : Option (Nat → Option (Nat × Nat)) := match P.underlying T with
 | some (.struct ⟨fs⟩) => (match aPlaces P fs with
  | some l => some (fun i => l[i]?)
  | none => none)
 | some (.array _ el) => (match szOf P el with
  | some k => some (fun i => some (i * k, k))
  | none => none)
 | _ => none
def aBuild (P : Program) (T : TypeId) (parts : List (Nat × Value)) : Option Value := match zeroOf P T, aParts P T with
 | some z, some pl => (match aFill pl (cellsL z) parts with
  | some l => some (.agg ⟨l⟩)
  | none => none)
 | _, _ => none
inductive PR (φ : Phi) : List (Nat × Value) → List (Nat × Value) → Prop
 | nil : PR φ [] []
 | cons {i : Nat} {v v' : Value} {l l' : List (Nat × Value)} (h : VR φ v v') (t : PR φ l l') : PR φ ((i, v) :: l) ((i, v') :: l')
theorem PR.two {l l' : List (Nat × Value)} (h : PR φ l l') : l.length = l'.length ∧ ∀ (k : Nat) (p p' : Nat × Value), l[k]? = some p → l'[k]? = some p' → p.1 = p'.1 ∧ VR φ p.2 p'.2 := by
 induction h with
 | nil => exact ⟨rfl, fun k p p' h1 => by simp at h1⟩
 | cons h t ih =>
  refine ⟨by simp [ih.1], fun k p p' h1 h2 => ?_⟩
  cases k with
  | zero => simp at h1 h2; subst h1; subst h2; exact ⟨rfl, h⟩
  | succ k => exact ih.2 k p p' (by simpa using h1) (by simpa using h2)
theorem sim_build (r : R w0 φ h w) {T : TypeId} {parts parts' : List (Nat × Value)} {v : Value} (hs : aBuild P T parts = some v) (hp : PR φ parts parts') : SimV w0 P φ h w (Instr.build T ⟨parts'⟩) v h := by
 unfold aBuild at hs
 split at hs
 · rename_i z pl hz hpl
   split at hs
   · rename_i l hl
     cases hs
     obtain ⟨hz1, hz2⟩ := rZero hz w
     obtain ⟨out', h1, h2⟩ := fill_ok parts parts' hl (pfv_refl φ hz2).cells hp.two
     refine .here r (v' := .agg ⟨out'⟩) ?_ (.agg' h2)
     unfold aParts at hpl
     unfold Instr.build
     simp only [Sem.run_bind, hz1, Result.andThen_ok, cells_eq]
     split at hpl
     · rename_i fs hu
       split at hpl
       · rename_i pls hpls
         cases hpl
         simp only [run_underlying hu, Result.andThen_ok, Sem.run_bind, places_ok hpls]
         have e : (fun i => (⟨pls⟩ : Array (Nat × Nat))[i]?) = fun (i : Nat) => pls[i]? := by funext i; simp
         rw [e, h1]
         rfl
       · cases hpl
     · rename_i n el hu
       split at hpl
       · rename_i k hk
         cases hpl
         simp only [run_underlying hu, Result.andThen_ok, Sem.run_bind, rSz hk, h1]
         rfl
       · cases hpl
     · cases hpl
   · cases hs
 · cases hs
def aMkI (P : Program) (T : TypeId) (x : Value) : Option Value := match P.underlying T with
 | some (.interface _) => none
 | some _ => some (.iface T x)
 | none => none
theorem sim_mkI (r : R w0 φ h w) {T : TypeId} {x x' v : Value} (hs : aMkI P T x = some v) (hx : VR φ x x') : SimV w0 P φ h w (Instr.makeInterface T x') v h := by
 unfold aMkI at hs
 split at hs
 · cases hs
 · rename_i d hd hu
   cases hs
   refine .here r (v' := .iface T x') ?_ (.iface hx)
   unfold Instr.makeInterface
   simp only [Sem.run_bind, run_underlying hu, Result.andThen_ok]
   cases d <;> first | rfl | exact (hd _ rfl).elim
 · cases hs
def aExtract (x : Value) (i : Nat) : Option Value := match x with
 | .tuple ⟨l⟩ => l[i]?
 | _ => none
theorem sim_extract (r : R w0 φ h w) {x x' v : Value} {i : Nat} (hs : aExtract x i = some v) (hx : VR φ x x') : SimV w0 P φ h w (Instr.extract x' i) v h := by
 unfold aExtract at hs
 split at hs
 · rename_i l
   obtain ⟨l', rfl, hl⟩ := hx.tuple_inv
   obtain ⟨v', h1, h2⟩ := hl.get hs
   exact .here r (by simp [Instr.extract, h1]) h2
 · cases hs
def aAssert (P : Program) (x : Value) (T : TypeId) (c : Bool) : Option Value := match P.underlying T with
 | some (.interface want) => (match x with
  | .nilIface => if c then (match zeroOf P T with | some z => some (.tuple #[z, .bool false]) | none => none) else none
  | .iface t _ => (match P.info? t with
   | some i => (match Instr.missingMethod want i.methods with
    | none => some (tupOk c x true)
    | some _ => if c then (match zeroOf P T with | some z => some (.tuple #[z, .bool false]) | none => none) else none)
   | none => none)
  | _ => none)
 | some _ => (match x with
  | .nilIface => if c then (match zeroOf P T with | some z => some (.tuple #[z, .bool false]) | none => none) else none
  | .iface t v => if t = T then some (tupOk c v true) else if c then (match zeroOf P T with | some z => some (.tuple #[z, .bool false]) | none => none) else none
  | _ => none)
 | none => none
theorem sim_assert (r : R w0 φ h w) {xT T : TypeId} {x x' v : Value} {c : Bool} (hs : aAssert P x T c = some v) (hx : VR φ x x') : SimV w0 P φ h w (Instr.typeAssert x' xT T c) v h := by
 have fails : ∀ {v : Value}, (if c then (match zeroOf P T with | some z => some (.tuple #[z, .bool false]) | none => none) else none) = some v → ∃ z, c = true ∧ v = .tuple #[z, .bool false] ∧ (zeroValue T).run P w = .ok z w ∧ VR φ z z := by
   intro v hv
   split at hv
   · rename_i hc
     split at hv
     · rename_i z hz
       cases hv
       obtain ⟨hz1, hz2⟩ := rZero hz w
       exact ⟨z, hc, rfl, hz1, pfv_refl φ hz2⟩
     · cases hv
   · cases hv
 unfold aAssert at hs
 split at hs
 · rename_i want hu
   split at hs
   · cases hx
     obtain ⟨z, hc, rfl, h1, h2⟩ := fails hs
     subst hc
     refine .here r (v' := .tuple #[z, .bool false]) ?_ (.tuple' (.cons h2 (.cons (.bool _) .nil)))
     simp [Instr.typeAssert, run_underlying hu, h1]
   · rename_i t v0
     split at hs
     · rename_i i hi
       have hx' : ∃ v', x' = .iface t v' := by cases hx; exact ⟨_, rfl⟩
       obtain ⟨v', rfl⟩ := hx'
       split at hs
       · rename_i hm
         cases hs
         refine .here r (v' := tupOk c (.iface t v') true) ?_ (tupOk_rel hx)
         simp [Instr.typeAssert, run_underlying hu, rI hi, hm, tupOk]
       · rename_i m hm
         obtain ⟨z, hc, rfl, h1, h2⟩ := fails hs
         subst hc
         refine .here r (v' := .tuple #[z, .bool false]) ?_ (.tuple' (.cons h2 (.cons (.bool _) .nil)))
         simp [Instr.typeAssert, run_underlying hu, rI hi, hm, h1]
     · cases hs
   · cases hs
 · rename_i d hd hu
   split at hs
   · cases hx
     obtain ⟨z, hc, rfl, h1, h2⟩ := fails hs
     subst hc
     refine .here r (v' := .tuple #[z, .bool false]) ?_ (.tuple' (.cons h2 (.cons (.bool _) .nil)))
     cases d <;> first | exact (hd _ rfl).elim | simp [Instr.typeAssert, run_underlying hu, h1]
   · rename_i t v0
     have hx' : ∃ v', x' = .iface t v' ∧ VR φ v0 v' := by cases hx with | iface h => exact ⟨_, rfl, h⟩
     obtain ⟨v', rfl, hv⟩ := hx'
     split at hs
     · rename_i ht
       cases hs
       subst ht
       refine .here r (v' := tupOk c v' true) ?_ (tupOk_rel hv)
       cases d <;> first | exact (hd _ rfl).elim | simp [Instr.typeAssert, run_underlying hu, tupOk]
     · rename_i ht
       obtain ⟨z, hc, rfl, h1, h2⟩ := fails hs
       subst hc
       refine .here r (v' := .tuple #[z, .bool false]) ?_ (.tuple' (.cons h2 (.cons (.bool _) .nil)))
       cases d <;> first | exact (hd _ rfl).elim | simp [Instr.typeAssert, run_underlying hu, h1, ht]
   · cases hs
 · cases hs
end
end Go.X
namespace Go.X
noncomputable section
open Go Go.RowKit
variable {w0 w w' : World} {φ φ' : Phi} {h h' : AH} {P : Program} {n : Nat} {t : T Value}
def rwB (h : AH) (b : Nat) : Bool := match h.m.get b with
 | some (.cells _ _ _ false) => true
 | some (.tcells _ _ _ _) => true
 | _ => false
theorem rw_row (r : R w0 φ h w) {b : Nat} {i : Im} (hi : φ b = some i) (hr : rwB h b = true) : ∃ o arr el, h.m.get b = some o ∧ o.ro = false ∧ w.heap[i.c]? = some (.cells arr el (0, 0)) := by
 unfold rwB at hr
 split at hr
 · rename_i c n op hg
   obtain ⟨_, _, _, arr, el, ⟨fz, hw, hr1, _⟩, _⟩ := r.dom _ _ _ hi hg
   cases hr1 rfl
   exact ⟨_, arr, el, hg, rfl, hw⟩
 · rename_i ty c n op hg
   obtain ⟨_, _, _, arr, hw, _⟩ := r.dom _ _ _ hi hg
   exact ⟨_, arr, ty, hg, rfl, hw⟩
 · cases hr
theorem run_sameAddr (r : R w0 φ h w) {a b : Addr} {i j : Im} {va vb : Value} (hi : φ a.block = some i) (hj : φ b.block = some j) (_ha : h.cell a = some va) (_hb : h.cell b = some vb) (hra : rwB h a.block = true) (hrb : rwB h b.block = true) :
   (sameAddr ⟨i.c, a.off + i.d, none⟩ ⟨j.c, b.off + j.d, none⟩).run P w = .ok (decide (a.block = b.block ∧ a.off = b.off)) w := by
 obtain ⟨oa, arr, el, hga, hra, hw⟩ := rw_row r hi hra
 obtain ⟨ob, arr2, el2, hgb, hrb, hw2⟩ := rw_row r hj hrb
 unfold sameAddr
 by_cases e : a.block = b.block
 · rw [e] at hi
   rw [hi] at hj; cases hj
   have : ((i.c == i.c) : Bool) = true := by simp
   rw [if_pos this]
   simp only [Sem.run_pure]
   congr 1
   by_cases e2 : a.off = b.off
   · simp [e, e2]
   · have : ¬ (a.off + i.d = b.off + i.d) := by omega
     simp [e2]
 · have hne : i.c ≠ j.c := fun hc => e (r.inj _ _ _ _ _ _ hi hj hga hgb hra hc)
   rw [if_neg (by simpa using hne)]
   have e3 : decide (a.block = b.block ∧ a.off = b.off) = false := by simp [e]
   rw [e3]
   simp [noView, viewAt, mayBeOne, stringish, frozen, shape, Sem.run, World.frozen?, World.shape?, hw, hw2]
def aEqV (P : Program) (T : TypeId) (x y : Value) (h : AH) : Option Bool := match P.underlying T, x, y with
 | some (.pointer _), .pointer none, .pointer b => some b.isNone
 | some (.pointer _), .pointer (some _), .pointer none => some false
 | some (.pointer el), .pointer (some a), .pointer (some b) => (match szOf P el, h.cell a, h.cell b with
  | some (_ + 1), some _, some _ => if rwB h a.block && rwB h b.block then some (decide (a.block = b.block ∧ a.off = b.off)) else none
  | _, _, _ => none)
 | some (.interface _), .nilIface, .iface _ _ => some false
 | some (.interface _), .iface _ _, .nilIface => some false
 | some (.slice _), .slice none _ _, .slice b _ _ => some b.isNone
 | some (.slice _), .slice (some _) _ _, .slice none _ _ => some false
 | some (.map _ _), .map none, .map b => some b.isNone
 | some (.map _ _), .map (some _), .map none => some false
 | some (.func _ _ _), .nilFunc, .func _ _ _ => some false
 | some (.func _ _ _), .func _ _ _, .nilFunc => some false
 | _, _, _ => none
theorem eqIn_ok (r : R w0 φ h w) {T : TypeId} {x y x' y' : Value} {b : Bool} (hs : aEqV P T x y h = some b) (hx : VR φ x x') (hy : VR φ y y') (d : Nat) : (Op.equalIn (d + 1) T x' y').run P w = .ok b w := by
 unfold aEqV at hs
 split at hs
 · rename_i el b' hu
   cases hs; cases hx
   cases hy <;> simp only [Op.equalIn, Sem.run_bind, run_underlying hu, Result.andThen_ok] <;> rfl
 · rename_i el a hu
   cases hs
   obtain ⟨i, hi, _, rfl⟩ := hx.ptr_inv
   cases hy
   simp only [Op.equalIn, Sem.run_bind, run_underlying hu, Result.andThen_ok]; rfl
 · rename_i el a b0 hu
   split at hs
   · rename_i k va vb hk ha hb
     by_cases hrw : (rwB h a.block && rwB h b0.block) = true
     case neg => rw [if_neg hrw] at hs; cases hs
     rw [if_pos hrw] at hs
     rw [Bool.and_eq_true] at hrw
     cases hs
     obtain ⟨i, hi, _, rfl⟩ := hx.ptr_inv
     obtain ⟨j, hj, _, rfl⟩ := hy.ptr_inv
     have := run_sameAddr (P := P) r hi hj ha hb hrw.1 hrw.2
     simp only [Op.equalIn, Sem.run_bind, run_underlying hu, rSz hk, Result.andThen_ok]
     rw [if_pos (by omega)]; exact this
   · cases hs
 · rename_i ms t0 v0 hu
   cases hs; cases hx; cases hy
   simp only [Op.equalIn, Sem.run_bind, run_underlying hu, Result.andThen_ok]; rfl
 · rename_i ms t0 v0 hu
   cases hs; cases hx; cases hy
   simp only [Op.equalIn, Sem.run_bind, run_underlying hu, Result.andThen_ok]; rfl
 · rename_i el l c b0 l2 c2 hu
   cases hs; cases hx
   cases hy <;> simp only [Op.equalIn, Sem.run_bind, run_underlying hu, Result.andThen_ok] <;> rfl
 · rename_i el a l c l2 c2 hu
   cases hs
   cases hy
   cases hx <;> simp only [Op.equalIn, Sem.run_bind, run_underlying hu, Result.andThen_ok] <;> rfl
 · rename_i k el b0 hu
   cases hs; cases hx
   cases hy <;> simp only [Op.equalIn, Sem.run_bind, run_underlying hu, Result.andThen_ok] <;> rfl
 · rename_i k el b0 hu
   cases hs
   cases hy
   obtain ⟨i, _, rfl⟩ := hx.map_inv
   simp only [Op.equalIn, Sem.run_bind, run_underlying hu, Result.andThen_ok]; rfl
 · rename_i a1 a2 a3 f a b0 hu
   cases hs; cases hx; cases hy
   simp only [Op.equalIn, Sem.run_bind, run_underlying hu, Result.andThen_ok]; rfl
 · rename_i a1 a2 a3 f a b0 hu
   cases hs; cases hx; cases hy
   simp only [Op.equalIn, Sem.run_bind, run_underlying hu, Result.andThen_ok]; rfl
 · cases hs
def plainPair : Value → Value → Bool
 | .pointer _, .pointer _ | .nilIface, .iface _ _ | .iface _ _, .nilIface | .slice _ _ _, .slice _ _ _ | .map _, .map _ | .nilFunc, .func _ _ _ | .func _ _ _, .nilFunc => true
 | _, _ => false
theorem eqV_pair {T : TypeId} {x y : Value} {b : Bool} (hs : aEqV P T x y h = some b) : plainPair x y = true := by
 unfold aEqV at hs
 split at hs <;> first | rfl | cases hs
theorem VR.pair {x y x' y' : Value} (hx : VR φ x x') (hy : VR φ y y') (hp : plainPair x y = true) : plainPair x' y' = true := by
 cases hx <;> cases hy <;> first | rfl | (simp [plainPair] at hp)
theorem pair_guard {op : BinOp} {T : TypeId} {xo yo : Operand} {x y : Value} (hp : plainPair x y = true) (w : World) : (eqGuard op T xo yo x y).run P w = .ok () w := by
 unfold eqGuard
 cases op <;> first | rfl | (cases x <;> cases y <;> first | rfl | (simp [plainPair] at hp))
theorem pair_eql {T : TypeId} {x y : Value} (hp : plainPair x y = true) : binOp .eql T x y = (do pure (.bool (← Op.equal T x y))) := by
 cases x <;> cases y <;> first | rfl | (simp [plainPair] at hp)
theorem pair_neq {T : TypeId} {x y : Value} (hp : plainPair x y = true) : binOp .neq T x y = (do pure (.bool (!(← Op.equal T x y)))) := by
 cases x <;> cases y <;> first | rfl | (simp [plainPair] at hp)
def aBinV (P : Program) (op : BinOp) (T : TypeId) (x y : Value) (h : AH) : Option Value := match op with
 | .eql => (match aEqV P T x y h with | some b => some (.bool b) | none => none)
 | .neq => (match aEqV P T x y h with | some b => some (.bool (!b)) | none => none)
 | _ => none
theorem sim_binV (r : R w0 φ h w) {op : BinOp} {T : TypeId} {xo yo : Operand} {x y x' y' v : Value} (hs : aBinV P op T x y h = some v) (hx : VR φ x x') (hy : VR φ y y') :
   SimV w0 P φ h w (do eqGuard op T xo yo x' y'; binOp op T x' y') v h := by
 unfold aBinV at hs
 split at hs
 · split at hs
   · rename_i b hb
     cases hs
     have hp := hx.pair hy (eqV_pair hb)
     refine .here r (v' := .bool b) ?_ (.bool b)
     have := eqIn_ok r hb hx hy 9999
     rw [Sem.run_bind, pair_guard hp, Result.andThen_ok, pair_eql hp, Sem.run_bind]
     unfold Op.equal
     rw [show Op.maxDepth = 9999 + 1 from rfl, this, Result.andThen_ok]
     rfl
   · cases hs
 · split at hs
   · rename_i b hb
     cases hs
     have hp := hx.pair hy (eqV_pair hb)
     refine .here r (v' := .bool (!b)) ?_ (.bool _)
     have := eqIn_ok r hb hx hy 9999
     rw [Sem.run_bind, pair_guard hp, Result.andThen_ok, pair_neq hp, Sem.run_bind]
     unfold Op.equal
     rw [show Op.maxDepth = 9999 + 1 from rfl, this, Result.andThen_ok]
     rfl
   · cases hs
 · cases hs
def aStr (op : BinOp) (a b : ByteArray) : Option Value := match op with
 | .eql => some (.bool (a.data.toList == b.data.toList))
 | .neq => some (.bool (!(a.data.toList == b.data.toList)))
 | .add => if a.size + b.size < 1099511627776 then some (.string ⟨⟨a.data.toList ++ b.data.toList⟩⟩) else none
 | .lss => some (.bool (Op.bytesLess a.data.toList b.data.toList))
 | .geq => some (.bool (!Op.bytesLess a.data.toList b.data.toList))
 | .leq => some (.bool (Op.bytesLess a.data.toList b.data.toList || a.data.toList == b.data.toList))
 | .gtr => some (.bool (!(Op.bytesLess a.data.toList b.data.toList || a.data.toList == b.data.toList)))
 | _ => none
theorem sim_str (r : R w0 φ h w) {op : BinOp} {T : TypeId} {xo yo : Operand} {a b : ByteArray} {v : Value} (hs : aStr op a b = some v) :
   SimV w0 P φ h w (do eqGuard op T xo yo (.string a) (.string b); binOp op T (.string a) (.string b)) v h := by
 have hg : (eqGuard op T xo yo (.string a) (.string b)).run P w = .ok () w := by unfold eqGuard; cases op <;> rfl
 have e1 := ByteArray.toList_eq a
 have e2 := ByteArray.toList_eq b
 unfold aStr at hs
 split at hs
 all_goals first | (cases hs; done) | skip
 · cases hs
   refine .here r (v' := .bool _) ?_ (.bool _)
   rw [Sem.run_bind, hg, Result.andThen_ok]
   simp [binOp, Op.stringOp, e1, e2]
 · cases hs
   refine .here r (v' := .bool _) ?_ (.bool _)
   rw [Sem.run_bind, hg, Result.andThen_ok]
   simp [binOp, Op.stringOp, e1, e2]
 · split at hs
   · rename_i hc
     cases hs
     refine .here r (v' := .string ⟨⟨a.data.toList ++ b.data.toList⟩⟩) ?_ (.string _)
     rw [Sem.run_bind, hg, Result.andThen_ok]
     show (Op.stringOp .add a b).run P w = _
     rw [run_string_add_sum w a b (by omega)]
     have e3 : a ++ b = ⟨⟨a.data.toList ++ b.data.toList⟩⟩ := by
      apply ByteArray.ext
      rw [ByteArray.data_append]
      apply Array.ext'
      simp
     rw [e3]
   · cases hs
 · cases hs
   refine .here r (v' := .bool _) ?_ (.bool _)
   rw [Sem.run_bind, hg, Result.andThen_ok]
   simp [binOp, Op.stringOp, e1, e2]
 · cases hs
   refine .here r (v' := .bool _) ?_ (.bool _)
   rw [Sem.run_bind, hg, Result.andThen_ok]
   simp [binOp, Op.stringOp, e1, e2]
 · cases hs
   refine .here r (v' := .bool _) ?_ (.bool _)
   rw [Sem.run_bind, hg, Result.andThen_ok]
   simp [binOp, Op.stringOp, e1, e2]
 · cases hs
   refine .here r (v' := .bool _) ?_ (.bool _)
   rw [Sem.run_bind, hg, Result.andThen_ok]
   simp [binOp, Op.stringOp, e1, e2]
def intsOf : List Value → Option (List Int)
 | [] => some []
 | .int .u8 n :: l => (match intsOf l with | some m => some (n :: m) | none => none)
 | _ => none
theorem intsOf_ok {l l' : List Value} (hl : LR φ l l') : ∀ {m : List Int}, intsOf l = some m → l' = m.map (Value.int .u8) := by
 induction hl with
 | nil => intro m h; simp only [intsOf] at h; cases h; rfl
 | cons hv _ ih =>
  intro m h
  unfold intsOf at h
  split at h
  · rename_i e; cases e
  · rename_i n l0 e
    cases e
    split at h
    · rename_i m' hm
      cases h
      obtain rfl := hv.int_inv
      rw [ih hm]; rfl
    · cases h
  · cases h
def aB2S (P : Program) (sT dT : TypeId) (x : Value) (h : AH) : Option Value := match P.underlying sT, P.underlying dT, x with
 | some (.slice el), some .string, .slice (some a) l c => (match P.underlying el with
  | some (.int .u8) => (match (if l = 0 then some [] else if c = 0 then none else h.cells a 0 l) with
   | some cs => (match intsOf cs with
    | some ns => some (.string ⟨⟨ns.map fun n => UInt8.ofNat n.toNat⟩⟩)
    | none => none)
   | none => none)
  | _ => none)
 | _, _, _ => none
theorem sim_b2s (r : R w0 φ h w) {sT dT : TypeId} {x x' v : Value} (hs : aB2S P sT dT x h = some v) (hx : VR φ x x') : SimV w0 P φ h w (convert sT dT x') v h := by
 unfold aB2S at hs
 split at hs
 · rename_i el a l c hu hd
   split at hs
   · rename_i he
     split at hs
     · rename_i cs hcs
       split at hs
       · rename_i ns hns
         cases hs
         have : ∃ a' c', x' = .slice (some a') l c' ∧ (loadCells a' l).run P w = .ok (ns.map (Value.int .u8)).toArray w := by
          by_cases hl : l = 0
          · subst hl
            rw [if_pos rfl] at hcs
            cases hcs
            simp only [intsOf] at hns
            cases hns
            have : ∃ a' c', x' = .slice (some a') 0 c' := by cases hx <;> exact ⟨_, _, rfl⟩
            obtain ⟨a', c', rfl⟩ := this
            exact ⟨a', c', rfl, by simp [loadCells, loadCellsFrom]⟩
          · rw [if_neg hl] at hcs
            split at hcs
            · cases hcs
            · rename_i hc
              obtain ⟨i, c', hi, hsp, rfl⟩ := hx.sl_some hc hl
              obtain ⟨l', h1, h2, h3⟩ := r.cells hi _ _ hcs
              refine ⟨_, c', rfl, ?_⟩
              rw [run_loadCells_at h1 (fun j v hj => by have := h2 j v hj; rwa [Nat.zero_add] at this), intsOf_ok h3 hns]
         obtain ⟨a', c', rfl, hld⟩ := this
         refine .here r (v' := .string ⟨⟨ns.map fun n => UInt8.ofNat n.toNat⟩⟩) ?_ (.string _)
         rw [run_convert_bytes_string w sT dT el _ _ _ hu he hd, run_bytesToString w a' l c' ns hld]
         congr 2
         have := foldl_push_bytes ns ByteArray.empty
         rw [this]
         apply ByteArray.ext
         apply Array.ext'
         simp
       · cases hs
     · cases hs
   · cases hs
 · cases hs
end
end Go.X
namespace Go.X
noncomputable section
open Go Go.RowKit
variable {w0 w w' : World} {φ φ' : Phi} {h h' : AH} {P : Program}
def szAt (h : AH) (b : Nat) : Option Nat := match h.m.get b with
 | some (.tcells _ _ n 0) => some n
 | _ => none
def aUnsP (P : Program) (s d : TypeId) (x : Value) (h : AH) : Option Value := match x with
 | .pointer (some a) => (match P.underlying s, P.underlying d with
  | some (.pointer t), some .unsafePointer => (match P.info? t, h.cell a with
   | some j, some _ => (match rwB h a.block && !Nat.beq j.size 0 with
    | true => some x
    | false => none)
   | _, _ => none)
  | some .unsafePointer, some (.pointer u) => (match P.info? u, tyAt h a.block, szAt h a.block with
   | some _, some ty, some n => (match liesAt P P.depth ty (n / P.cellsOf ty) a.off u 1 with
    | true => some x
    | false => none)
   | _, _, _ => none)
  | _, _ => none)
 | _ => none
theorem sim_unsP (r : R w0 φ h w) {s d : TypeId} {x x' v : Value} (hs : aUnsP P s d x h = some v) (hx : VR φ x x') : SimV w0 P φ h w (convert s d x') v h := by
 unfold aUnsP at hs
 split at hs
 · rename_i a
   obtain ⟨i, hi, hsp, rfl⟩ := hx.ptr_inv
   have hxv : VR φ (.pointer (some a)) (.pointer (some ⟨i.c, a.off + i.d, none⟩)) := .ptr i hi hsp
   split at hs
   · rename_i t hu hd
     split at hs
     · rename_i j u hj hc
       split at hs
       · rename_i hb
         cases hs
         rw [Bool.and_eq_true] at hb
         obtain ⟨o, arr, el, _, _, hw⟩ := rw_row r hi hb.1
         obtain ⟨v', h1, _, _⟩ := r.cell hi hc
         have hlt : a.off + i.d < arr.size := by
          simp only [World.cell?, hw] at h1
          exact (Array.getElem?_eq_some_iff.1 h1).1
         have hj0 : j.size ≠ 0 := fun e => by rw [e] at hb; exact absurd hb.2 (by decide)
         exact .here r (Lib.run_to_unsafe w ⟨i.c, a.off + i.d, none⟩ hu hd hj hj0 (e := el) (cells := arr.size) (by simp [World.shape?, hw]) hlt) hxv
       · cases hs
     · cases hs
   · rename_i u hu hd
     split at hs
     · rename_i j ty n hj hty hsz
       split at hs
       · rename_i hl
         cases hs
         have hg : ∃ c, h.m.get a.block = some (.tcells ty c n 0) := by
          unfold szAt at hsz
          unfold tyAt at hty
          split at hsz
          · rename_i ty2 c n2 hg
            cases hsz
            rw [hg] at hty
            cases hty
            exact ⟨c, hg⟩
          · cases hsz
         obtain ⟨c, hg⟩ := hg
         obtain ⟨_, _, hd0, arr, hw, hsize, ⟨_, h0⟩, _⟩ := r.dom _ _ _ hi hg
         have hn : arr.size = n := by rw [hsize, ← h0 rfl]
         refine .here r (Lib.run_from_unsafe w ⟨i.c, a.off + i.d, none⟩ hu hd hj (e := ty) (cells := arr.size) (by simp [World.shape?, hw]) ?_) hxv
         rw [hn, hd0, Nat.add_zero]
         exact hl
       · cases hs
     · cases hs
   · cases hs
 · cases hs
def aSData (x : Value) : Option Value := match x with
 | .slice (some a) l c => (match a.spot with
  | some _ => none
  | none => (match Nat.beq c open_ with
   | true => (match Nat.beq l 0 with
    | true => none
    | false => some (.pointer (some a)))
   | false => (match Nat.beq c 0 with
    | true => none
    | false => some (.pointer (some a)))))
 | _ => none
theorem sim_sdata (r : R w0 φ h w) {Ts : Array TypeId} {ty : TypeId} {x x' v : Value} (hs : aSData x = some v) (hx : VR φ x x') : SimV w0 P φ h w (Builtin.unsafeSliceData_ Ts ty #[x']) v h := by
 unfold aSData at hs
 split at hs
 · rename_i a l c
   split at hs
   · cases hs
   · rename_i hsp
     split at hs
     · rename_i hc
       have hc := Nat.eq_of_beq_eq_true hc
       subst hc
       split at hs
       · cases hs
       · rename_i hl
         cases hs
         obtain ⟨a', c', i, rfl, hi, _, _, hlc, _, _, ha⟩ := hx.sl_invO
         have hl0 : l ≠ 0 := fun e => by subst e; rw [Nat.beq_refl] at hl; cases hl
         obtain rfl := ha (by omega)
         exact .here r (Lib.run_unsafeSliceData_row w Ts ty _ l c' (by omega)) (.ptr i hi hsp)
     · rename_i hc
       split at hs
       · cases hs
       · rename_i hc0
         cases hs
         have h0 : c ≠ 0 := fun e => by subst e; rw [Nat.beq_refl] at hc0; cases hc0
         have ho : c ≠ open_ := fun e => by subst e; rw [Nat.beq_refl] at hc; cases hc
         obtain ⟨i, hi, hsp2, rfl⟩ := hx.sl_inv h0 ho
         exact .here r (Lib.run_unsafeSliceData_row w Ts ty _ l c h0) (.ptr i hi hsp)
 · cases hs
def bytesOfV : List Value → Option (List UInt8)
 | [] => some []
 | .int .u8 (.ofNat k) :: l => (match Nat.blt k 256, bytesOfV l with
  | true, some m => some (UInt8.ofNat k :: m)
  | _, _ => none)
 | _ :: _ => none
theorem bytesOfV_ok : ∀ {l l' : List Value} {m : List UInt8}, bytesOfV l = some m → LR φ l l' → l' = m.map fun (c : UInt8) => Value.int .u8 (c.toNat : Int)
 | [], l', m, h, hl => by cases h; cases hl; rfl
 | v :: l, l', m, h, hl => by
  unfold bytesOfV at h
  split at h
  · rename_i heq; cases heq
  · rename_i k l2 heq
    cases heq
    split at h
    · rename_i m2 hk hm
      cases h
      cases hl with
      | cons h1 h2 =>
       cases h1
       rw [bytesOfV_ok hm h2]
       have hk := Nat.le_of_ble_eq_true hk
       have : (UInt8.ofNat k).toNat = k := by simp; omega
       rw [List.map_cons, this]
       rfl
    · cases h
  · cases h
def aUStr (P : Program) (pt : TypeId) (x n : Value) (h : AH) : Option (Value × AH) := match x, n with
 | .pointer (some ⟨b, 0, none⟩), .int .i64 (.ofNat (m + 1)) => (match P.underlying pt, tyAt h b with
  | some (.pointer e), some ty => (match Nat.beq ty e && (Nat.beq (P.cellsOf e) 1 && Nat.blt m 1099511627776) with
   | true => (match h.cells ⟨b, 0, none⟩ 0 (m + 1) with
    | some cs => (match bytesOfV cs with
     | some l => some (.string ⟨⟨l⟩⟩, { h with m := h.m.set b none })
     | none => none)
    | none => none)
   | false => none)
  | _, _ => none)
 | _, _ => none
theorem R.freezeFree (r : R w0 φ h w) {g n : Nat} (free : ∀ b j o', φ b = some j → h.m.get b = some o' → j.c ≠ g) (hl : w0.heap.size ≤ g) : R w0 φ h (w.freeze ⟨g, 0, none⟩ n) := by
 have hoth : ∀ k, k ≠ g → (w.freeze ⟨g, 0, none⟩ n).heap[k]? = w.heap[k]? := by
  intro k hk
  unfold World.freeze
  split
  · rfl
  · simp only [Array.getElem?_modify]
    rw [if_neg (fun e => hk e.symm)]
 have hsz : (w.freeze ⟨g, 0, none⟩ n).heap.size = w.heap.size := by
  unfold World.freeze
  split
  · rfl
  · simp
 exact ⟨fun b i o hi ho => (r.dom b i o hi ho).world (hoth _ (free b i o hi ho)), r.low, r.inj, fun b i hi => by rw [hsz]; exact r.lt b i hi, r.nx,
  Lib.below_freeze r.below (p := ⟨g, 0, none⟩) hl n⟩
theorem sim_ustr (r : R w0 φ h w) {pt it ty : TypeId} {x n x' n' v : Value} (hs : aUStr P pt x n h = some (v, h')) (hx : VR φ x x') (hn : VR φ n n') : SimV w0 P φ h w (Builtin.unsafeString_ #[pt, it] ty #[x', n']) v h' := by
 unfold aUStr at hs
 split at hs
 · rename_i b m
   obtain ⟨i, hi, _, rfl⟩ := hx.ptr_inv
   cases hn
   split at hs
   · rename_i e ty0 hu hty
     split at hs
     · rename_i hb
       rw [Bool.and_eq_true, Bool.and_eq_true] at hb
       have e1 := Nat.eq_of_beq_eq_true hb.1
       have e2 := Nat.eq_of_beq_eq_true hb.2.1
       have e3 := Nat.le_of_ble_eq_true hb.2.2
       subst e1
       split at hs
       · rename_i cs hcs
         split at hs
         · rename_i l hl
           cases hs
           obtain ⟨l', h1, h2, h3⟩ := r.cells hi _ _ hcs
           have hl' := bytesOfV_ok hl h3
           have hlen : l.length = m + 1 := by rw [← h1, hl', List.length_map]
           have hg : ∃ c n op, h.m.get b = some (.tcells ty0 c n op) := by
            unfold tyAt at hty
            split at hty
            · rename_i t2 c n op hg; cases hty; exact ⟨c, n, op, hg⟩
            · cases hty
           obtain ⟨c, n1, op, hg⟩ := hg
           obtain ⟨_, _, hd0, arr, hw, hsize, _, _⟩ := r.dom _ _ _ hi hg
           have hcell : ∀ j x, l[j]? = some x → w.cell? ((⟨i.c, 0, none⟩ : Addr).add j) = some (.int .u8 x.toNat) := by
            intro j x hj
            have := h2 j (.int .u8 x.toNat) (by rw [hl', List.getElem?_map, hj]; rfl)
            rw [addEq]
            simpa [hd0] using this
           have hle : l.length ≤ arr.size := by
            have hj : l[m]? = some (l[m]'(by omega)) := List.getElem?_eq_getElem (by omega)
            have := hcell m _ hj
            rw [addEq] at this
            simp only [World.cell?, hw] at this
            have := (Array.getElem?_eq_some_iff.1 this).1
            omega
           have hrun := Lib.run_unsafeString_row (P := P) w pt it ty ty0 hu e2 i.c arr.size (by simp [World.shape?, hw]) l (by intro e; rw [e] at hlen; cases hlen) hle (by omega) hcell
           rw [hlen] at hrun
           have free : ∀ b' j o', φ b' = some j → (h.m.set b none).get b' = some o' → j.c ≠ i.c := by
            intro b' j o' hj hgo hc
            rw [T.get_set] at hgo
            by_cases e : b' = b
            · rw [if_pos e] at hgo; cases hgo
            · rw [if_neg e] at hgo; exact e (r.inj _ _ _ _ _ _ hi hj hg hgo rfl hc.symm).symm
           have rf := (r.drop b trivial).freezeFree (g := i.c) (n := m + 1) free (r.low _ _ _ hi hg rfl)
           refine ⟨_, _, φ, ?_, Nx.drop hi trivial, rf, .string _⟩
           simp only [hd0, Nat.add_zero]
           exact hrun
         · cases hs
       · cases hs
     · cases hs
   · cases hs
 · cases hs
end
end Go.X
namespace Go.X
noncomputable section
open Go Go.RowKit
variable {w0 w w' : World} {φ φ' : Phi} {h h' : AH} {P : Program} {n : Nat} {t : T Value}
inductive AN where
 | val (v : Value)
 | skip
 | enter (f : FuncId) (args : List Value)
 | round (b : Nat) (ts : T Value) (sz : Nat) (asg body : Code)
abbrev Outs := Option (List (AN × AH))
def one (v : Value) (h : AH) : Outs := some [(.val v, h)]
def ov (x : Option Value) (h : AH) : Outs := match x with | some v => some [(.val v, h)] | none => none
def ovh (x : Option (Value × AH)) : Outs := match x with | some (v, h) => some [(.val v, h)] | none => none
def osk (x : Option AH) : Outs := match x with | some h => some [(.skip, h)] | none => none
def oun (x : Option AH) : Outs := match x with | some h => some [(.val undef, h)] | none => none
inductive NR (φ : Phi) : AN → Next → Prop
 | val {v v' : Value} (h : VR φ v v') : NR φ (.val v) (.value v')
 | skip : NR φ .skip .skip
 | enter {f : FuncId} {l l' : List Value} (h : LR φ l l') : NR φ (.enter f l) (.enter f ⟨l'⟩)
 | round {b : Nat} {i : Im} {ts : T Value} {sz : Nat} {asg body : Code} {fn : FuncId} {arr : Array Value} (hb : φ b = some i) (hf : FR φ sz ts arr) : NR φ (.round b ts sz asg body) (.round i.c fn arr asg body)
def Sim (w0 : World) (P : Program) (φ : Phi) (h : AH) (w : World) (s : Sem Next) (l : List (AN × AH)) : Prop :=
 ∃ an h', (an, h') ∈ l ∧ ∃ nx w' φ', s.run P w = .ok nx w' ∧ Nx φ φ' h h' ∧ R w0 φ' h' w' ∧ NR φ' an nx
theorem Sim.ofV {s : Sem Value} {v : Value} {l : List (AN × AH)} (hs : SimV w0 P φ h w s v h') (hm : (.val v, h') ∈ l) : Sim w0 P φ h w (do pure (.value (← s))) l := by
 obtain ⟨v', w', φ', h1, h2, h3, h4⟩ := hs
 exact ⟨_, _, hm, .value v', w', φ', by rw [Sem.run_bind, h1]; rfl, h2, h3, .val h4⟩
theorem Sim.ofU {s : Sem Unit} {l : List (AN × AH)} (hs : ∃ w', s.run P w = .ok () w' ∧ Nx φ φ h h' ∧ R w0 φ h' w') (hm : (.skip, h') ∈ l) : Sim w0 P φ h w (do s; pure .skip) l := by
 obtain ⟨w', h1, h2, h3⟩ := hs
 exact ⟨_, _, hm, .skip, w', φ, by rw [Sem.run_bind, h1]; rfl, h2, h3, .skip⟩
theorem Sim.ov {s : Sem Value} {x : Option Value} {l : List (AN × AH)} (hl : X.ov x h = some l) (hs : ∀ v, x = some v → SimV w0 P φ h w s v h) : Sim w0 P φ h w (do pure (.value (← s))) l := by
 unfold X.ov at hl
 split at hl
 · cases hl; exact .ofV (hs _ rfl) (List.mem_singleton.2 rfl)
 · cases hl
theorem Sim.ovh {s : Sem Value} {x : Option (Value × AH)} {l : List (AN × AH)} (hl : X.ovh x = some l) (hs : ∀ v h', x = some (v, h') → SimV w0 P φ h w s v h') : Sim w0 P φ h w (do pure (.value (← s))) l := by
 unfold X.ovh at hl
 split at hl
 · cases hl; exact .ofV (hs _ _ rfl) (List.mem_singleton.2 rfl)
 · cases hl
theorem Sim.oun {s : Sem Value} {x : Option AH} {l : List (AN × AH)} (hl : X.oun x = some l) (hs : ∀ h', x = some h' → SimV w0 P φ h w s undef h') : Sim w0 P φ h w (do pure (.value (← s))) l := by
 unfold X.oun at hl
 split at hl
 · cases hl; exact .ofV (hs _ rfl) (List.mem_singleton.2 rfl)
 · cases hl
theorem Sim.osk {s : Sem Unit} {x : Option AH} {l : List (AN × AH)} (hl : X.osk x = some l) (hs : ∀ h', x = some h' → ∃ w', s.run P w = .ok () w' ∧ Nx φ φ h h' ∧ R w0 φ h' w') : Sim w0 P φ h w (do s; pure .skip) l := by
 unfold X.osk at hl
 split at hl
 · cases hl; exact .ofU (hs _ rfl) (List.mem_singleton.2 rfl)
 · cases hl
def aO (n : Nat) (t : T Value) (x : Operand) : Option Value := Operand.rec (motive := fun _ => Option Value)
 (fun k => Bool.rec (motive := fun _ => Option Value) (some (Option.rec (motive := fun _ => Value) undef (fun v => v) (t.get k))) none (Nat.ble n k))
 (fun v => Bool.rec (motive := fun _ => Option Value) none (some v) (pfv v)) (fun _ => none) (fun f => some (.func (.func f) #[] #[])) x
theorem aO_eq (n : Nat) (t : T Value) (x : Operand) : aO n t x = if opnOk n x then aEv t x else none := by
 cases x with
 | tmp k =>
  show Bool.rec (motive := fun _ => Option Value) _ _ (Nat.ble n k) = _
  cases hb : Nat.ble n k with
  | true =>
   have : ¬ k < n := Nat.not_lt.2 (Nat.le_of_ble_eq_true hb)
   simp [opnOk, this]
  | false =>
   have : k < n := Nat.lt_of_not_le (fun hle => by rw [Nat.ble_eq_true_of_le hle] at hb; cases hb)
   simp only [opnOk, this, decide_true, if_true, aEv]
   cases t.get k <;> rfl
 | const v =>
  show Bool.rec (motive := fun _ => Option Value) _ _ (pfv v) = _
  cases hb : pfv v <;> simp [opnOk, aEv, hb]
 | global g => rfl
 | func f => rfl
theorem aO_ok {a : Act} (f : FR φ n t a.tmps) {x : Operand} {v : Value} (hs : aO n t x = some v) : VR φ v (a.eval x) := by
 rw [aO_eq] at hs
 split at hs
 · exact aEv_ok f ‹_› hs
 · cases hs
def aOO (n : Nat) (t : T Value) : Option Operand → Option (Option Value)
 | none => some none
 | some x => match aO n t x with | some v => some (some v) | none => none
theorem aOO_ok {a : Act} (f : FR φ n t a.tmps) {x : Option Operand} {v : Option Value} (hs : aOO n t x = some v) : OptR φ v (x.map a.eval) := by
 cases x with
 | none => simp only [aOO] at hs; cases hs; exact .none
 | some x =>
  simp only [aOO] at hs
  split at hs
  · rename_i v' hv; cases hs; exact .some (aO_ok f hv)
  · cases hs
def aOs (n : Nat) (t : T Value) : List Operand → Option (List Value)
 | [] => some []
 | x :: l => match aO n t x, aOs n t l with
  | some v, some m => some (v :: m)
  | _, _ => none
theorem aOs_ok {a : Act} (f : FR φ n t a.tmps) : ∀ {l : List Operand} {m : List Value}, aOs n t l = some m → LR φ m (l.map a.eval)
 | [], m, hs => by simp only [aOs] at hs; cases hs; exact .nil
 | x :: l, m, hs => by
  simp only [aOs] at hs
  split at hs
  · rename_i v m' hv hm; cases hs; exact .cons (aO_ok f hv) (aOs_ok f hm)
  · cases hs
def aPs (n : Nat) (t : T Value) : List (Nat × Operand) → Option (List (Nat × Value))
 | [] => some []
 | (i, x) :: l => match aO n t x, aPs n t l with
  | some v, some m => some ((i, v) :: m)
  | _, _ => none
theorem aPs_ok {a : Act} (f : FR φ n t a.tmps) : ∀ {l : List (Nat × Operand)} {m : List (Nat × Value)}, aPs n t l = some m → PR φ m (l.map fun p => (p.1, a.eval p.2))
 | [], m, hs => by simp only [aPs] at hs; cases hs; exact .nil
 | (i, x) :: l, m, hs => by
  simp only [aPs] at hs
  split at hs
  · rename_i v m' hv hm; cases hs; exact .cons (aO_ok f hv) (aPs_ok f hm)
  · cases hs
def aPure (P : Program) (s : Sem Value) : Option Value := match pureRun P s with
 | some v => if pfv v then some v else none
 | none => none
theorem sim_pure (r : R w0 φ h w) {s : Sem Value} {v : Value} (hs : aPure P s = some v) : SimV w0 P φ h w s v h := by
 unfold aPure at hs
 split at hs
 · rename_i v' hv
   split at hs
   · cases hs; exact .here r (run_of_pure hv w) (pfv_refl φ ‹_›)
   · cases hs
 · cases hs
def aBin (P : Program) (op : BinOp) (T : TypeId) (xo yo : Operand) (x y : Value) (h : AH) : Option Value := match x, y with
 | .int _ _, .int _ _ => aPure P (do eqGuard op T xo yo x y; binOp op T x y)
 | .string a, .string b => aStr op a b
 | _, _ => match aBinV P op T x y h with
  | some v => some v
  | none => if pfv x && pfv y then aPure P (do eqGuard op T xo yo x y; binOp op T x y) else none
theorem sim_bin (r : R w0 φ h w) {op : BinOp} {T : TypeId} {xo yo : Operand} {x y x' y' v : Value} (hs : aBin P op T xo yo x y h = some v) (hx : VR φ x x') (hy : VR φ y y') :
   SimV w0 P φ h w (do eqGuard op T xo yo x' y'; binOp op T x' y') v h := by
 unfold aBin at hs
 split at hs
 · obtain rfl := hx.int_inv
   obtain rfl := hy.int_inv
   exact sim_pure r hs
 · cases hx; cases hy
   exact sim_str r hs
 · split at hs
   · rename_i v' hv
     cases hs
     exact sim_binV r hv hx hy
   · split at hs
     · rename_i hp
       simp only [Bool.and_eq_true] at hp
       obtain rfl := pfv_same hp.1 hx
       obtain rfl := pfv_same hp.2 hy
       exact sim_pure r hs
     · cases hs
def aConv (P : Program) (s d : TypeId) (x : Value) (h : AH) : Option Value := match aB2S P s d x h with
 | some v => some v
 | none => (match aUnsP P s d x h with
  | some v => some v
  | none => if pfv x then aPure P (convert s d x) else none)
theorem sim_conv (r : R w0 φ h w) {s d : TypeId} {x x' v : Value} (hs : aConv P s d x h = some v) (hx : VR φ x x') : SimV w0 P φ h w (convert s d x') v h := by
 unfold aConv at hs
 split at hs
 · rename_i v' hv
   cases hs
   exact sim_b2s r hv hx
 · split at hs
   · rename_i v' hv
     cases hs
     exact sim_unsP r hv hx
   · split at hs
     · rename_i hp
       obtain rfl := pfv_same hp hx
       exact sim_pure r hs
     · cases hs
def pfo : Option Value → Bool
 | none => true
 | some v => pfv v
theorem pfo_same {x x' : Option Value} (hp : pfo x = true) (hx : OptR φ x x') : x' = x := by
 cases hx with
 | none => rfl
 | some h => rw [pfv_same hp h]
def aSl (P : Program) (T : TypeId) (x : Value) (lo hi mx : Option Value) (h : AH) : Option Value := match aSlice P T x lo hi mx h with
 | some v => some v
 | none => if pfv x && pfo lo && pfo hi && pfo mx then aPure P (Instr.sliceAt T x lo hi mx) else none
theorem sim_sl (r : R w0 φ h w) {T : TypeId} {x v x' : Value} {lo hi mx lo' hi' mx' : Option Value} (hs : aSl P T x lo hi mx h = some v) (hx : VR φ x x') (hlo : OptR φ lo lo') (hhi : OptR φ hi hi') (hmx : OptR φ mx mx') :
   SimV w0 P φ h w (Instr.sliceAt T x' lo' hi' mx') v h := by
 unfold aSl at hs
 split at hs
 · rename_i v' hv
   cases hs
   exact sim_slice r hv hx hlo hhi hmx
 · split at hs
   · rename_i hp
     simp only [Bool.and_eq_true] at hp
     obtain rfl := pfv_same hp.1.1.1 hx
     obtain rfl := pfo_same hp.1.1.2 hlo
     obtain rfl := pfo_same hp.1.2 hhi
     obtain rfl := pfo_same hp.2 hmx
     exact sim_pure r hs
   · cases hs
def aUn (P : Program) (op : UnOp) (x : Value) : Option Value := if pfv x then aPure P (Op.unary op x) else none
theorem sim_un (r : R w0 φ h w) {op : UnOp} {x x' v : Value} (hs : aUn P op x = some v) (hx : VR φ x x') : SimV w0 P φ h w (Op.unary op x') v h := by
 unfold aUn at hs
 split at hs
 · rename_i hp
   obtain rfl := pfv_same hp hx
   exact sim_pure r hs
 · cases hs
def nilOk : Value → Bool
 | .pointer (some _) | .iface _ _ | .func (.func _) _ _ => true
 | _ => false
def aBuiltin (P : Program) (b : Builtin) (Ts : List TypeId) (vs : List Value) (h : AH) : Outs := match b, Ts, vs with
 | .len, [T], [x] => ov (aLen P T x h) h
 | .cap, [T], [x] => ov (aCap P T x) h
 | .append, [T, U], [s, x] => ovh (aAppend P T U s x h)
 | .copy, [T, _], [d, x] => ovh (aCopy P T d x h)
 | .delete, [T, _], [m, k] => oun (aDelete P T m k h)
 | .clear, [T], [x] => oun (aClear P T x h)
 | .max, _, l => if l.all pfv then ov (aPure P (Builtin.max_ #[] 0 ⟨l⟩)) h else none
 | .min, _, l => if l.all pfv then ov (aPure P (Builtin.min_ #[] 0 ⟨l⟩)) h else none
 | .unsafeSliceData, _, [x] => ov (aSData x) h
 | .unsafeString, [pt, _], [x, n] => ovh (aUStr P pt x n h)
 | _, _, _ => none
theorem all_same {l l' : List Value} (hl : LR φ l l') (hp : l.all pfv = true) : l' = l := by
 induction hl with
 | nil => rfl
 | cons hv _ ih =>
  simp only [List.all_cons, Bool.and_eq_true] at hp
  rw [pfv_same hp.1 hv, ih hp.2]
theorem LR.one_inv {v : Value} {l : List Value} (hl : LR φ [v] l) : ∃ v', l = [v'] ∧ VR φ v v' := by
 cases hl with | cons h t => cases t; exact ⟨_, rfl, h⟩
theorem LR.two_inv {v u : Value} {l : List Value} (hl : LR φ [v, u] l) : ∃ v' u', l = [v', u'] ∧ VR φ v v' ∧ VR φ u u' := by
 cases hl with | cons h t => cases t with | cons k t => cases t; exact ⟨_, _, rfl, h, k⟩
theorem sim_builtin (r : R w0 φ h w) {b : Builtin} {Ts : List TypeId} {vs vs' : List Value} {ty : TypeId} {cs : Array Bool} {l : List (AN × AH)} (hs : aBuiltin P b Ts vs h = some l) (hv : LR φ vs vs') :
   Sim w0 P φ h w (builtin b ⟨Ts⟩ ty cs ⟨vs'⟩) l := by
 unfold aBuiltin at hs
 split at hs
 · obtain ⟨v', rfl, hx⟩ := hv.one_inv
   exact .ov hs (fun v hv => sim_len r hv hx)
 · obtain ⟨v', rfl, hx⟩ := hv.one_inv
   exact .ov hs (fun v hv => sim_cap r hv hx)
 · obtain ⟨v', u', rfl, hx, hy⟩ := hv.two_inv
   exact .ovh hs (fun v h' hv => sim_append r hv hx hy)
 · obtain ⟨v', u', rfl, hx, hy⟩ := hv.two_inv
   exact .ovh hs (fun v h' hv => sim_copy r hv hx hy)
 · obtain ⟨v', u', rfl, hx, hy⟩ := hv.two_inv
   exact .oun hs (fun h' hv => sim_delete r hv hx hy)
 · obtain ⟨v', rfl, hx⟩ := hv.one_inv
   exact .oun hs (fun h' hv => sim_clear r hv hx)
 · split at hs
   · obtain rfl := all_same hv ‹_›
     exact .ov hs (fun v hv => sim_pure r hv)
   · cases hs
 · split at hs
   · obtain rfl := all_same hv ‹_›
     exact .ov hs (fun v hv => sim_pure r hv)
   · cases hs
 · obtain ⟨v', rfl, hx⟩ := hv.one_inv
   exact .ov hs (fun v hv => sim_sdata r hv hx)
 · obtain ⟨v', u', rfl, hx, hy⟩ := hv.two_inv
   exact .ovh hs (fun v h' hv => sim_ustr r hv hx hy)
 · cases hs
end
end Go.X
namespace Go.X
noncomputable section
open Go Go.RowKit
variable {w0 w w' : World} {φ φ' : Phi} {h h' : AH} {P : Program} {n : Nat} {t : T Value}
inductive Mk where
 | ptr
 | sl (l c : Nat)
 | mp
def Mk.val : Mk → Nat → Value
 | .ptr, b => .pointer (some ⟨b, 0, none⟩)
 | .sl l c, b => .slice (some ⟨b, 0, none⟩) l c
 | .mp, b => .map (some b)
inductive Al where
 | cells (l : List Value)
 | map
 | tcells (ty : TypeId) (l : List Value)
def Al.obj : Al → AObj
 | .cells l => .cells (T.fill l 0 .e) l.length 0 false
 | .map => .map [] 0 false
 | .tcells ty l => .tcells ty (T.fill l 0 .e) l.length 0
def Al.im (c : Nat) : Al → Im
 | .cells l => ⟨c, 0, l.length, l.length, 0⟩
 | .map => ⟨c, 0, 0, 0, 0⟩
 | .tcells _ l => ⟨c, 0, l.length, l.length, 0⟩
def Al.ok : Al → Mk → Bool
 | .cells _, .ptr => true
 | .cells _, .sl _ c => decide (c < open_)
 | .map, .mp => true
 | .tcells _ _, .ptr => true
 | _, _ => false
def isBld (P : Program) (el : TypeId) : Bool := match P.underlying el with
 | some (.struct fs) => (match fs.toList with
  | [a, _] => a.name == "addr"
  | _ => false)
 | _ => false
def isMapT (P : Program) (T : TypeId) : Bool := match P.underlying T with | some (.map _ _) => true | _ => false
def aAl0 (P : Program) (n : Nat) (t : T Value) : Op → Option (Al × Mk)
 | .alloc el => match zeroOf P el with
  | some z => (match isBld P el with
   | true => some (.tcells el (cellsL z), .ptr)
   | false => some (.cells (cellsL z), .ptr))
  | none => none
 | .box _ x => match aO n t x with | some v => some (.cells (cellsL v), .ptr) | none => none
 | .buildSlice T len ⟨ps⟩ => match P.underlying T, aPs n t ps with
  | some (.slice el), some parts => (match szOf P el, zeroOf P el with
   | some k, some z => if len * k ≤ 16777216 ∧ (cellsL z).length = k then (match aFill (fun i => some (i * k, k)) (zrep len (cellsL z)) parts with
    | some l => some (.cells l, .sl len len)
    | none => none) else none
   | _, _ => none)
  | _, _ => none
 | .makeSlice T l c => match aO n t l, aO n t c with
  | some (.int _ l), some (.int _ c) => (match P.underlying T with
   | some (.slice el) => (match szOf P el, byOf P el, zeroOf P el with
    | some k, some by_, some z => if 0 ≤ l ∧ l ≤ c ∧ c * (by_ + 1) < 1099511627776 ∧ (cellsL z).length = k then some (.cells (zrep c.toNat (cellsL z)), .sl l.toNat c.toNat) else none
    | _, _, _ => none)
   | _ => none)
  | _, _ => none
 | .makeMap T r => match r with
  | none => some (.map, .mp)
  | some x => (match aO n t x with
   | some (.int _ _) => if isMapT P T then some (.map, .mp) else none
   | _ => none)
 | _ => none
def aAl (P : Program) (n : Nat) (t : T Value) (o : Op) : Option (Al × Mk) := match aAl0 P n t o with
 | some (al, mk) => if al.ok mk then some (al, mk) else none
 | none => none
def AlR (φ : Phi) : Al → Obj → Prop
 | .cells l, x => ∃ l' el, x = .cells ⟨l'⟩ el (0, 0) ∧ LR φ l l'
 | .map, x => x = .map #[] 0
 | .tcells ty l, x => ∃ l', x = .cells ⟨l'⟩ ty (0, 0) ∧ LR φ l l'
theorem AlR.or {al : Al} {x : Obj} {c : Nat} {mk : Mk} (hk : al.ok mk = true) (ha : AlR φ al x) (le : Le φ φ') (hw : w.heap[c]? = some x) : OR φ' (al.im c) w al.obj := by
 cases al with
 | cells l =>
  obtain ⟨l', el, rfl, hl⟩ := ha
  have hle : T.Ok (l.length) := trivial
  refine ⟨rfl, rfl, hle, ⟨l'⟩, el, ⟨(0, 0), hw, fun _ => rfl, fun k _ => by simp [World.frozen?, Al.im, hw]⟩, by simp [Al.im, hl.length], by simp [Al.im], fun k hk => ?_⟩
  obtain ⟨v', h1, h2⟩ := hl.get (List.getElem?_eq_getElem hk)
  refine ⟨l[k], v', ?_, by simpa [Al.im] using h1, h2.mono le⟩
  rw [T.get_fill, if_pos (by omega)]
  simp [hk]
 | map => exact ⟨#[], by rw [show x = .map #[] 0 from ha] at hw; exact hw, .nil⟩
 | tcells ty l =>
  obtain ⟨l', rfl, hl⟩ := ha
  refine ⟨rfl, rfl, rfl, ⟨l'⟩, hw, by simp [Al.im, hl.length], ⟨Nat.le_refl _, fun _ => rfl⟩, fun k hk => ?_⟩
  obtain ⟨v', h1, h2⟩ := hl.get (List.getElem?_eq_getElem hk)
  refine ⟨l[k], v', ?_, by simpa using h1, h2.mono le⟩
  rw [T.get_fill, if_pos (by omega)]
  simp [hk]
theorem Mk.rel {al : Al} {mk : Mk} {b c : Nat} (hk : al.ok mk = true) (hb : φ b = some (al.im c)) : VR φ (mk.val b) (mk.val c) := by
 cases al with
 | cells l => cases mk with
  | ptr => exact .ptr (a := ⟨b, 0, none⟩) _ hb rfl
  | sl l0 c0 =>
   simp only [Al.ok, decide_eq_true_eq] at hk
   exact .slice (a := ⟨b, 0, none⟩) _ hb rfl (by omega)
  | mp => simp [Al.ok] at hk
 | map => cases mk with
  | mp => exact .map _ hb
  | _ => simp [Al.ok] at hk
 | tcells ty l => cases mk with
  | ptr => exact .ptr (a := ⟨b, 0, none⟩) _ hb rfl
  | _ => simp [Al.ok] at hk
theorem al0_run {a : Act} (f : FR φ n t a.tmps) {o : Oper} {al : Al} {mk : Mk} (hs : aAl0 P n t o.op = some (al, mk)) :
  ∃ x, AlR φ al x ∧ ∀ w : World, (execOp a.eval o).run P w = .ok (.value (mk.val w.heap.size)) (w.alloc x) := by
 cases hop : o.op with
 | alloc el =>
  rw [hop] at hs
  simp only [aAl0] at hs
  split at hs
  · rename_i z hz
    have hz2 := (rZero hz default).2
    have hrun : ∀ w : World, (execOp a.eval o).run P w = .ok (.value (Mk.ptr.val w.heap.size)) (w.alloc (.cells ⟨cellsL z⟩ el (0, 0))) := by
      intro w
      have hz1 := (rZero hz w).1
      simp only [execOp, hop, Instr.alloc, Sem.run_bind, hz1, Result.andThen_ok, newVar, newRow, run_newObj_alloc, Sem.run_pure, cells_eq, Mk.val]
    split at hs
    · cases hs
      exact ⟨.cells ⟨cellsL z⟩ el (0, 0), ⟨_, rfl, (pfv_refl φ hz2).cells⟩, hrun⟩
    · cases hs
      exact ⟨.cells ⟨cellsL z⟩ el (0, 0), ⟨_, _, rfl, (pfv_refl φ hz2).cells⟩, hrun⟩
  · cases hs
 | box el x =>
  rw [hop] at hs
  simp only [aAl0] at hs
  split at hs
  · rename_i v hv
    cases hs
    refine ⟨.cells ⟨cellsL (a.eval x)⟩ el (0, 0), ⟨_, _, rfl, (aO_ok f hv).cells⟩, fun w => ?_⟩
    simp only [execOp, hop, Instr.box, newVar, newRow, Sem.run_bind, run_newObj_alloc, Result.andThen_ok, Sem.run_pure, cells_eq, Mk.val]
  · cases hs
 | buildSlice T len parts =>
  obtain ⟨ps⟩ := parts
  rw [hop] at hs
  simp only [aAl0] at hs
  split at hs
  · rename_i el parts hu hps
    split at hs
    · rename_i k z hk hz
      split at hs
      · rename_i hc
        split at hs
        · rename_i l hl
          cases hs
          have hz2 := (rZero hz default).2
          have hpr := aPs_ok f hps
          obtain ⟨out', h1, h2⟩ := fill_ok parts _ hl (zrep_rel (pfv_refl φ hz2).cells len) hpr.two
          refine ⟨.cells ⟨out'⟩ el (0, 0), ⟨_, _, rfl, h2⟩, fun w => ?_⟩
          have hz1 := (rZero hz w).1
          have hmap : ((⟨ps⟩ : Array (Nat × Operand)).map fun (i, x) => (i, a.eval x)) = ⟨ps.map fun p => (p.1, a.eval p.2)⟩ := by
           apply Array.ext'; simp
          simp only [execOp, hop, hmap]
          have hrun : (Instr.buildSlice T len ⟨ps.map fun p => (p.1, a.eval p.2)⟩).run P w = .ok (.slice (some ⟨w.heap.size, 0, none⟩) len len) (w.alloc (.cells ⟨out'⟩ el (0, 0))) := by
           unfold Instr.buildSlice
           simp only [Sem.run_bind, run_underlying hu, Result.andThen_ok, rSz hk]
           rw [if_neg (by omega)]
           by_cases hn : len * k = 0
           · have ez : zrep len (cellsL z) = [] := List.eq_nil_of_length_eq_zero (by rw [zrep_len, hc.2]; exact hn)
             have er : (Array.range (len * k)).map (fun i => (#[] : Array Value)[i % (#[] : Array Value).size]!) = ⟨[]⟩ := by
              rw [hn]
              have : Array.range 0 = (#[] : Array Nat) := Array.eq_empty_of_size_eq_zero (by simp)
              rw [this]; simp
             rw [ez] at h1
             rw [if_pos hn]
             simp only [Sem.run_pure, Sem.run_bind, Result.andThen_ok, er, h1, newRow, run_newObj_alloc]
           · rw [if_neg hn]
             simp only [Sem.run_pure, Sem.run_bind, Result.andThen_ok, hz1]
             rw [zarr (by rw [hc.2]), h1]
             simp only [Sem.run_pure, Sem.run_bind, Result.andThen_ok, newRow, run_newObj_alloc]
          rw [Sem.run_bind, hrun]; rfl
        · cases hs
      · cases hs
    · cases hs
  · cases hs
 | makeSlice T lx cx =>
  rw [hop] at hs
  simp only [aAl0] at hs
  split at hs
  · rename_i k1 l k2 c hl hc
    have el := (aO_ok f hl).int_inv
    have ec := (aO_ok f hc).int_inv
    split at hs
    · rename_i el' hu
      split at hs
      · rename_i k by_ z hk hb hz
        split at hs
        · rename_i hcond
          cases hs
          obtain ⟨h1, h2, h3, h4⟩ := hcond
          have hz2 := (rZero hz default).2
          obtain ⟨i, hi, hisz⟩ := rI' hk
          have hib : i.bytes = by_ := by unfold byOf at hb; rw [hi] at hb; simpa using hb
          have hcc : c < 1099511627776 := by
           have : c * 1 ≤ c * (by_ + 1 : Int) := Int.mul_le_mul_of_nonneg_left (by omega) (by omega)
           omega
          have hcb : (by_ : Int) * c ≤ 281474976710656 := by
           have : c * (by_ + 1 : Int) = by_ * c + c := by rw [Int.mul_add, Int.mul_comm, Int.mul_one]
           omega
          have hroom : ¬ (140737488355328 < c.toNat * by_) := by
           have e : ((c.toNat * by_ : Nat) : Int) = c * by_ := by push_cast; rw [Int.toNat_of_nonneg (by omega)]
           have : c * (by_ + 1 : Int) = c * by_ + c := by rw [Int.mul_add, Int.mul_one]
           omega
          refine ⟨.cells ⟨zrep c.toNat (cellsL z)⟩ el' (0, 0), ⟨_, _, rfl, zrep_rel (pfv_refl φ hz2).cells _⟩, fun w => ?_⟩
          have hz1 := (rZero hz w).1
          have hrun : (Instr.makeSlice T (.int k1 l) (.int k2 c)).run P w = .ok (.slice (some ⟨w.heap.size, 0, none⟩) l.toNat c.toNat) (w.alloc (.cells ⟨zrep c.toNat (cellsL z)⟩ el' (0, 0))) := by
           unfold Instr.makeSlice
           simp only [Sem.run_bind, run_underlying hu, Result.andThen_ok, asInt, asIntOf, Sem.run_pure, rI hi, wrap64 (show 0 ≤ c by omega) hcc, wrap64 h1 (show l < 1099511627776 by omega)]
           have t1 : (decide (c < 0) || decide ((i.bytes : Int) * c > 2 ^ 48)) = false := by
             rw [hib]; simp only [Bool.or_eq_false_iff, decide_eq_false_iff_not]; omega
           simp only [t1, Bool.false_or]
           rw [if_neg (by simp; omega)]
           simp only [askRoom, roomBytes, hib]
           rw [if_neg (by omega)]
           simp only [Sem.run_pure, Sem.run_bind, Result.andThen_ok, rSz hk]
           by_cases hn : c.toNat * k = 0
           · have ez : zrep c.toNat (cellsL z) = [] := List.eq_nil_of_length_eq_zero (by rw [zrep_len, h4]; exact hn)
             rw [if_pos hn]
             have er : Array.range 0 = (#[] : Array Nat) := Array.eq_empty_of_size_eq_zero (by simp)
             simp [newRow, ez, hn, er]
           · rw [if_neg hn]
             simp only [Sem.run_bind, hz1, Sem.run_pure, Result.andThen_ok, newRow, run_newObj_alloc]
             rw [zarr (by rw [h4])]
          simp only [execOp, hop, el, ec]
          rw [Sem.run_bind, hrun]; rfl
        · cases hs
      · cases hs
    · cases hs
  · cases hs
 | makeMap T rr =>
  rw [hop] at hs
  simp only [aAl0] at hs
  cases rr with
  | none =>
    cases hs
    refine ⟨.map #[] 0, rfl, fun w => ?_⟩
    simp [execOp, hop, Instr.makeMap, Mk.val]
  | some x =>
    dsimp only at hs
    split at hs
    · rename_i kk q hx
      split at hs
      · rename_i hm
        cases hs
        have ex := (aO_ok f hx).int_inv
        unfold isMapT at hm
        split at hm
        · rename_i k el hu
          refine ⟨.map #[] 0, rfl, fun w => ?_⟩
          simp [execOp, hop, Instr.makeMap, Mk.val, ex, run_underlying hu, asInt, asIntOf]
        · cases hm
      · cases hs
    · cases hs
 | _ => rw [hop] at hs; simp [aAl0] at hs
theorem al_run {a : Act} (f : FR φ n t a.tmps) {o : Oper} {al : Al} {mk : Mk} (hs : aAl P n t o.op = some (al, mk)) :
   al.ok mk = true ∧ ∃ x, AlR φ al x ∧ ∀ w : World, (execOp a.eval o).run P w = .ok (.value (mk.val w.heap.size)) (w.alloc x) := by
 unfold aAl at hs
 split at hs
 · rename_i al0 mk0 h0
   split at hs
   · rename_i hk; cases hs; exact ⟨hk, al0_run f h0⟩
   · cases hs
 · cases hs
def AH.newAl (h : AH) (al : Al) : Option (Nat × AH) := if true = true then some (h.next, ⟨h.m.set h.next (some al.obj), h.next + 1⟩) else none
def aNew (x : Option (Al × Mk)) (h : AH) : Outs := match x with
 | some (al, mk) => (match h.newAl al with
  | some (b, h') => some [(.val (mk.val b), h')]
  | none => none)
 | none => none
end
end Go.X
namespace Go.X
noncomputable section
open Go Go.RowKit
variable {w0 w w' : World} {φ φ' : Phi} {h h' : AH} {P : Program}
theorem R.grown (r : R w0 φ h w) (b : Below w.heap.size w w') : R w0 φ h w' := by
 have e : ∀ {k i}, φ k = some i → w'.heap[i.c]? = w.heap[i.c]? := fun hk => b.block _ (r.lt _ _ hk).1
 have hs : w.heap.size ≤ w'.heap.size := b.size
 have hb := r.below
 refine ⟨fun k i o hi ho => (r.dom k i o hi ho).world (e hi), r.low, r.inj, fun k i hi => ⟨Nat.lt_of_lt_of_le (r.lt k i hi).1 hs, (r.lt k i hi).2⟩, r.nx, ?_⟩
 exact hb.trans (b.mono hb.size)
def byteVals (b : ByteArray) : List Value := b.data.toList.map fun c => Value.int .u8 c.toNat
def aS2B (P : Program) (s d : TypeId) (x : Value) (h : AH) : Outs := match P.underlying s, P.underlying d, x with
 | some _, some (.slice e), .string b => (match P.underlying e with
  | some (.int .u8) => some [(.val (.slice (some ⟨h.next, 0, none⟩) (byteVals b).length open_), ⟨h.m.set h.next (some (.cells (T.fill (byteVals b) 0 .e) (byteVals b).length 1 true)), h.next + 1⟩)]
  | _ => none)
 | _, _, _ => none
theorem bytes_below (w : World) (e : TypeId) (b : ByteArray) : Below w.heap.size w (Lib.bytesWorld w e b) :=
 ⟨rfl, rfl, rfl, by rw [Lib.bytesWorld_size]; exact Nat.le_succ _, fun k hk => Lib.bytesWorld_at_old w e b k hk⟩
theorem byteVals_length (b : ByteArray) : (byteVals b).length = b.size := by
 unfold byteVals
 rw [List.length_map, Array.length_toList]; rfl
theorem sim_s2b (r : R w0 φ h w) {s d : TypeId} {x x' : Value} {l : List (AN × AH)} (hs : aS2B P s d x h = some l) (hx : VR φ x x') : Sim w0 P φ h w (do pure (.value (← convert s d x'))) l := by
 unfold aS2B at hs
 split at hs
 · rename_i u e b hu hd
   split at hs
   · rename_i he
     cases hs
     cases hx
     have hrun := Lib.run_convert_string_bytes w s d e b hu hd he
     have r1 := r.grown (bytes_below w e b)
     have hge : b.size ≤ grownCap w b.size 0 e := grownCap_ge w b.size 0 e
     have hcs : (Lib.bytesCells w e b).size = grownCap w b.size 0 e := by
       simp only [Lib.bytesCells, Array.size_append, Array.size_map, Array.size_replicate]
       show b.size + _ = _
       omega
     have hlen := byteVals_length b
     have hfz : ∀ k, k < (byteVals b).length → (Lib.bytesWorld w e b).frozen? ⟨w.heap.size, k + 0, none⟩ = false := by
       intro k hk
       simp only [World.frozen?, Lib.bytesWorld_at_new]
       simp
       omega
     have hcell : ∀ k, k < (byteVals b).length → ∃ v v', (T.fill (byteVals b) 0 .e).get k = some v ∧ (Lib.bytesCells w e b)[k + 0]? = some v' ∧ ∀ φ', VR φ' v v' := by
       intro k hk
       have hk2 : k < b.data.size := by rw [← show b.size = b.data.size from rfl]; omega
       refine ⟨Value.int .u8 (b.data.toList[k]'(by simpa using hk2)).toNat, Value.int .u8 (b.data.toList[k]'(by simpa using hk2)).toNat, ?_, ?_, fun _ => .int _ _⟩
       · rw [T.get_fill, if_pos (by omega)]
         unfold byteVals
         simp
         exact ⟨_, Array.getElem?_eq_getElem hk2, rfl⟩
       · simp only [Nat.add_zero, Lib.bytesCells]
         rw [Array.getElem?_append_left (by simpa using hk2)]
         simp
         exact ⟨_, Array.getElem?_eq_getElem hk2, rfl⟩
     obtain ⟨φ', nx, hb, r2⟩ := r1.bind (i := ⟨w.heap.size, 0, (byteVals b).length, (Lib.bytesCells w e b).size, 1⟩) (o := .cells (T.fill (byteVals b) 0 .e) (byteVals b).length 1 true)
       (by rw [Lib.bytesWorld_size]; exact Nat.lt_succ_self _) r.nx (fun k j o hj ho he2 => by have := (r.lt k j hj).1; simp only at he2; omega) r.below.size
       (fun φ' le => ⟨rfl, rfl, trivial, Lib.bytesCells w e b, e, ⟨_, Lib.bytesWorld_at_new w e b, (fun e2 => by cases e2), hfz⟩, rfl, by rw [hcs]; simp only [Nat.add_zero]; omega, fun k hk => by
         obtain ⟨v, v', h1, h2, h3⟩ := hcell k hk
         exact ⟨v, v', h1, h2, h3 φ'⟩⟩)
     refine ⟨_, _, List.mem_singleton.2 rfl, .value (.slice (some ⟨w.heap.size, 0, none⟩) b.size (grownCap w b.size 0 e)), _, φ', ?_, nx, r2, .val ?_⟩
     · rw [Sem.run_bind, hrun]; rfl
     · rw [hlen]
       have h1 : (byteVals b).length ≤ 0 + grownCap w b.size 0 e * 1 := by omega
       have h2 : 0 + 0 + grownCap w b.size 0 e * 1 ≤ (Lib.bytesCells w e b).size := by omega
       exact VR.opens (i := ⟨w.heap.size, 0, (byteVals b).length, (Lib.bytesCells w e b).size, 1⟩) hb rfl Nat.one_pos hge h1 h2 (fun _ => rfl)
   · cases hs
 · cases hs
end
end Go.X
namespace Go.X
noncomputable section
open Go Go.RowKit
variable {w0 w w' : World} {φ φ' : Phi} {h h' : AH} {P : Program}
def sameBs : List UInt8 → List UInt8 → Bool
 | [], [] => true
 | a :: l, b :: m => Nat.beq a.toNat b.toNat && sameBs l m
 | _, _ => false
theorem sameBs_ok : ∀ {l m : List UInt8}, sameBs l m = true → l = m
 | [], [], _ => rfl
 | a :: l, b :: m, h => by
  unfold sameBs at h
  rw [Bool.and_eq_true] at h
  rw [UInt8.toNat_inj.1 (Nat.eq_of_beq_eq_true h.1), sameBs_ok h.2]
 | [], _ :: _, h => by cases h
 | _ :: _, [], h => by cases h
theorem sameBs_refl : ∀ (l : List UInt8), sameBs l l = true
 | [] => rfl
 | a :: l => by unfold sameBs; rw [Nat.beq_refl, sameBs_refl l]; rfl
def sameB (a b : ByteArray) : Bool := sameBs a.data.toList b.data.toList
theorem sameB_iff {a b : ByteArray} : sameB a b = true ↔ a = b := by
 constructor
 · intro h
   have := sameBs_ok h
   obtain ⟨⟨a⟩⟩ := a
   obtain ⟨⟨b⟩⟩ := b
   have : a = b := this
   rw [this]
 · intro h
   subst h
   exact sameBs_refl _
def bagVals (k : ByteArray) (es : List (ByteArray × Value)) : List Value := (es.filter fun e => sameB e.1 k).map (·.2)
abbrev pOf (e : Value × Value × Nat) : Value × Value := (e.1, e.2.1)
abbrev qOf (e : ByteArray × Value) : Value × Value := (Value.string e.1, e.2)
theorem ba_beq (a b : ByteArray) : (a == b) = true ↔ a = b := by
 cases a; cases b
 show ByteArray.beq _ _ = true ↔ _
 unfold ByteArray.beq
 simp
theorem find_bag {k : ByteArray} : ∀ {es : List (Value × Value × Nat)} {L : List MapEntry}, ER φ es L → (∀ e, e ∈ es → ∃ a, e.1 = .string a) → ∀ i,
  ((∀ e, e ∈ es → e.1 ≠ .string k) ∧ Instr.findNow .string (.string k) L i = some none) ∨
  ∃ j e e', es[j]? = some e ∧ L[j]? = some e' ∧ e.1 = .string k ∧ VR φ e.2.1 e'.val ∧ e'.key = .string k ∧ Instr.findNow .string (.string k) L i = some (some (i + j, e'.val)) := by
 intro es L he
 induction he with
 | nil => intro _ i; exact .inl ⟨fun e h => (by cases h), rfl⟩
 | @cons key v key' v' b l l' hk hv t ih =>
  intro hs i
  obtain ⟨a, ha⟩ := hs _ List.mem_cons_self
  have ha : key = .string a := ha
  subst ha
  cases hk
  by_cases e : k = a
  · subst e
    refine .inr ⟨0, _, _, rfl, rfl, rfl, hv, rfl, ?_⟩
    have hbq : (k == k) = true := (ba_beq k k).2 rfl
    simp only [Instr.findNow, Instr.sameNow, hbq, Nat.add_zero]
  · have hne : (k == a) = false := by
      cases hb : (k == a) with
      | false => rfl
      | true => exact (e ((ba_beq k a).1 hb)).elim
    rcases ih (fun x hx => hs x (List.mem_cons_of_mem _ hx)) (i + 1) with ⟨h1, h2⟩ | ⟨j, e1, e2, h1, h2, h3, h4, h5, h6⟩
    · refine .inl ⟨fun x hx => ?_, ?_⟩
      · rcases List.mem_cons.1 hx with rfl | hx
        · intro h; cases h; exact e rfl
        · exact h1 x hx
      · simp only [Instr.findNow, Instr.sameNow, hne]; exact h2
    · refine .inr ⟨j + 1, e1, e2, h1, h2, h3, h4, h5, ?_⟩
      simp only [Instr.findNow, Instr.sameNow, hne]
      rw [h6]; congr 3; omega
theorem bag_str {es : List (Value × Value × Nat)} {bs : List (ByteArray × Value)} (hp : (es.map pOf).Perm (bs.map qOf)) : ∀ e, e ∈ es → ∃ a, e.1 = .string a := by
 intro e he
 have h1 := hp.mem_iff.1 (List.mem_map.2 ⟨e, he, rfl⟩)
 obtain ⟨x, _, h2⟩ := List.mem_map.1 h1
 exact ⟨x.1, (congrArg Prod.fst h2).symm⟩
theorem bag_one {es : List (Value × Value × Nat)} {bs : List (ByteArray × Value)} (hp : (es.map pOf).Perm (bs.map qOf)) {k : ByteArray} {v : Value} (hv : bagVals k bs = [v]) {e : Value × Value × Nat} (he : e ∈ es) (hk : e.1 = .string k) : e.2.1 = v := by
 have h1 := hp.mem_iff.1 (List.mem_map.2 ⟨e, he, rfl⟩)
 obtain ⟨x, hx, h2⟩ := List.mem_map.1 h1
 have h3 : x.1 = k := by
  have := (congrArg Prod.fst h2).trans hk
  cases this; rfl
 have h4 : x.2 ∈ bagVals k bs := List.mem_map.2 ⟨x, List.mem_filter.2 ⟨hx, sameB_iff.2 h3⟩, rfl⟩
 rw [hv, List.mem_singleton] at h4
 rw [← h4]
 exact (congrArg Prod.snd h2).symm
theorem bag_has {es : List (Value × Value × Nat)} {bs : List (ByteArray × Value)} (hp : (es.map pOf).Perm (bs.map qOf)) {k : ByteArray} {v : Value} (hv : bagVals k bs = [v]) : ¬ ∀ e, e ∈ es → e.1 ≠ .string k := by
 intro hno
 have h1 : v ∈ bagVals k bs := by rw [hv]; exact List.mem_singleton.2 rfl
 obtain ⟨x, hx, rfl⟩ := List.mem_map.1 h1
 obtain ⟨h2, h3⟩ := List.mem_filter.1 hx
 have h4 := hp.mem_iff.2 (List.mem_map.2 ⟨x, h2, rfl⟩)
 obtain ⟨e, he, h5⟩ := List.mem_map.1 h4
 exact hno e he ((congrArg Prod.fst h5).trans (by show Value.string x.1 = _; rw [show x.1 = k from sameB_iff.1 h3]))
theorem bag_none {es : List (Value × Value × Nat)} {bs : List (ByteArray × Value)} (hp : (es.map pOf).Perm (bs.map qOf)) {k : ByteArray} (hv : bagVals k bs = []) : ∀ e, e ∈ es → e.1 ≠ .string k := by
 intro e he hk
 have h1 := hp.mem_iff.1 (List.mem_map.2 ⟨e, he, rfl⟩)
 obtain ⟨x, hx, h2⟩ := List.mem_map.1 h1
 have h3 : x.1 = k := by
  have := (congrArg Prod.fst h2).trans hk
  cases this; rfl
 have h4 : x.2 ∈ bagVals k bs := List.mem_map.2 ⟨x, List.mem_filter.2 ⟨hx, sameB_iff.2 h3⟩, rfl⟩
 rw [hv] at h4; cases h4
def aLookupB (P : Program) (T : TypeId) (x k : Value) (c : Bool) (h : AH) : Option Value := match x, k with
 | .map (some r), .string s => (match h.m.get r with
  | some (.bag es) => (match P.underlying T with
   | some (.map kt el) => (match P.underlying kt with
    | some .string => (match aCheckKey P es.isEmpty kt (.string s), bagVals s es with
     | true, [v] => some (tupOk c v true)
     | true, [] => (match zeroOf P el with
      | some z => some (tupOk c z false)
      | none => none)
     | _, _ => none)
    | _ => none)
   | _ => none)
  | _ => none)
 | _, _ => none
theorem R.bag (r : R w0 φ h w) {b : Nat} {i : Im} {bs : List (ByteArray × Value)} (hi : φ b = some i) (ho : h.m.get b = some (.bag bs)) :
  ∃ arr clock es, w.heap[i.c]? = some (.map arr clock) ∧ (getObj i.c).run P w = .ok (.map arr clock) w ∧ ER φ es arr.toList ∧ (es.map pOf).Perm (bs.map qOf) ∧ arr.isEmpty = bs.isEmpty := by
 obtain ⟨arr, cl, es, h1, h2, h3⟩ := r.dom _ _ _ hi ho
 refine ⟨arr, cl, es, h1, by simp [getObj, Sem.run, h1], h2, h3, ?_⟩
 have hl : bs.length = arr.size := by
  have e1 := h3.length_eq
  rw [List.length_map, List.length_map] at e1
  rw [← e1, h2.length]; simp
 rw [Bool.eq_iff_iff, Array.isEmpty_iff_size_eq_zero, List.isEmpty_iff_length_eq_zero, hl]
theorem sim_lookupB (r : R w0 φ h w) {T : TypeId} {x k x' k' v : Value} {c : Bool} (hs : aLookupB P T x k c h = some v) (hx : VR φ x x') (hk : VR φ k k') : SimV w0 P φ h w (Instr.lookup T x' k' c) v h := by
 unfold aLookupB at hs
 split at hs
 · rename_i b s
   cases hk
   obtain ⟨i, hi, rfl⟩ := hx.map_inv
   split at hs
   · rename_i bs ho
     obtain ⟨arr, cl, es, g1, g2, g3, g4, g5⟩ := r.bag (P := P) hi ho
     split at hs
     · rename_i kt el hu
       split at hs
       · rename_i hkt
         have hfk : ∀ {o : Option (Nat × Value)}, Instr.findNow .string (.string s) arr.toList 0 = some o → (Instr.findKey kt (.string s) arr.toList).run P w = .ok o w := by
           intro o ho
           unfold Instr.findKey
           simp only [Sem.run_bind, run_underlying hkt, Result.andThen_ok, ho]
           rfl
         split at hs
         · rename_i u hck hv
           cases hs
           have hc := checkKey_ok hck w
           rw [← g5] at hc
           rcases find_bag (k := s) g3 (bag_str g4) 0 with ⟨h1, _⟩ | ⟨j, e, e', h1, h2, h3, h4, h5, h6⟩
           · exact (bag_has g4 hv h1).elim
           · have hev := bag_one g4 hv (List.mem_of_getElem? h1) h3
             refine .here r (v' := tupOk c e'.val true) ?_ (tupOk_rel (hev ▸ h4))
             unfold Instr.lookup
             simp only [Sem.run_bind, run_underlying hu, Result.andThen_ok, g2, hc, hfk h6, Sem.run_pure]
             simp [tupOk]
         · rename_i hck hv
           split at hs
           · rename_i z hz
             cases hs
             obtain ⟨hz1, hz2⟩ := rZero hz w
             have hc := checkKey_ok hck w
             rw [← g5] at hc
             rcases find_bag (k := s) g3 (bag_str g4) 0 with ⟨_, h6⟩ | ⟨j, e, e', h1, h2, h3, h4, h5, h6⟩
             · refine .here r (v' := tupOk c z false) ?_ (tupOk_rel (pfv_refl φ hz2))
               unfold Instr.lookup
               simp only [Sem.run_bind, run_underlying hu, Result.andThen_ok, g2, hc, hfk h6, Sem.run_pure]
               simp [tupOk, hz1]
             · exact (bag_none g4 hv e (List.mem_of_getElem? h1) h3).elim
           · cases hs
         · cases hs
       · cases hs
     · cases hs
   · cases hs
 · cases hs
def bagPut1 (k : ByteArray) (v : Value) (e : ByteArray × Value) : ByteArray × Value := match sameB e.1 k with
 | true => (k, v)
 | false => e
def bagPut (k : ByteArray) (v : Value) (es : List (ByteArray × Value)) : List (ByteArray × Value) := es.map (bagPut1 k v)
def aUpdateB (P : Program) (T : TypeId) (x k v : Value) (h : AH) : Option AH := match x, k with
 | .map (some r), .string s => (match h.m.get r with
  | some (.bag es) => (match P.underlying T with
   | some (.map kt _) => (match P.underlying kt with
    | some .string => (match aCheckKey P false kt (.string s) && stays (.string s) (.string s), bagVals s es with
     | true, [_] => some { h with m := h.m.set r (some (.bag (bagPut s v es))) }
     | _, _ => none)
    | _ => none)
   | _ => none)
  | _ => none)
 | _, _ => none
theorem two_count {α : Type} (p : α → Bool) : ∀ {l : List α} {i j : Nat} {x y : α}, l[i]? = some x → l[j]? = some y → p x = true → p y = true → i ≠ j → 2 ≤ l.countP p
 | [], i, j, x, y, hi, _, _, _, _ => by simp at hi
 | z :: l, i, j, x, y, hi, hj, hx, hy, hne => by
  have pos : ∀ {k : Nat} {u : α}, l[k]? = some u → p u = true → 1 ≤ l.countP p := fun hk hu => List.countP_pos_iff.2 ⟨_, List.mem_of_getElem? hk, hu⟩
  rw [List.countP_cons]
  cases i with
  | zero =>
   cases j with
   | zero => exact (hne rfl).elim
   | succ j =>
    simp only [List.getElem?_cons_zero, Option.some.injEq] at hi
    subst hi
    rw [if_pos hx]
    have := pos (by simpa using hj) hy
    omega
  | succ i =>
   cases j with
   | zero =>
    simp only [List.getElem?_cons_zero, Option.some.injEq] at hj
    subst hj
    rw [if_pos hy]
    have := pos (by simpa using hi) hx
    omega
   | succ j =>
    have := two_count p (by simpa using hi) (by simpa using hj) hx hy (fun e => hne (by rw [e]))
    omega
theorem setV_get (k v : Value) : ∀ (es : List (Value × Value × Nat)) (i j : Nat), (setV es i k v)[j]? = if j = i then (es[j]?).map (fun e => (k, v, e.2.2)) else es[j]?
 | [], i, j => by cases i <;> simp [setV]
 | (a, b, c) :: l, 0, j => by cases j <;> simp [setV]
 | e :: l, i + 1, j => by
  cases j with
  | zero => simp [setV]
  | succ j => simp only [setV, List.getElem?_cons_succ, setV_get k v l i j, Nat.add_right_cancel_iff]
theorem bag_setV {es : List (Value × Value × Nat)} {bs : List (ByteArray × Value)} (hp : (es.map pOf).Perm (bs.map qOf)) {k : ByteArray} {u v : Value} (hv : bagVals k bs = [u]) {j : Nat} {e : Value × Value × Nat} (hj : es[j]? = some e) (hk : e.1 = .string k) :
  ((setV es j (.string k) v).map pOf).Perm ((bagPut k v bs).map qOf) := by
 classical
 let is : Value × Value → Bool := fun x => decide (x.1 = .string k)
 let g : Value × Value → Value × Value := fun x => if x.1 = .string k then (.string k, v) else x
 have e1 : (bagPut k v bs).map qOf = (bs.map qOf).map g := by
  unfold bagPut
  rw [List.map_map, List.map_map]
  refine List.map_congr_left (fun x _ => ?_)
  show qOf (bagPut1 k v x) = g (qOf x)
  unfold bagPut1
  cases hb : sameB x.1 k with
  | true =>
    have := sameB_iff.1 hb
    show (Value.string k, v) = g (qOf x)
    exact (if_pos (by show Value.string x.1 = _; rw [this])).symm
  | false =>
    show qOf x = g (qOf x)
    refine (if_neg (fun h => ?_)).symm
    have h : Value.string x.1 = .string k := h
    cases h
    rw [sameB_iff.2 rfl] at hb; cases hb
 have cnt : (es.map pOf).countP is = 1 := by
  rw [hp.countP_eq, List.countP_map]
  have h1 : (bagVals k bs).length = 1 := by rw [hv]; rfl
  unfold bagVals at h1
  rw [List.length_map, ← List.countP_eq_length_filter] at h1
  rw [← h1]
  refine List.countP_congr (fun x _ => ?_)
  show decide (Value.string x.1 = .string k) = true ↔ sameB x.1 k = true
  rw [decide_eq_true_iff, sameB_iff]
  exact ⟨fun h => by cases h; rfl, fun h => by rw [h]⟩
 have e2 : (setV es j (.string k) v).map pOf = (es.map pOf).map g := by
  apply List.ext_getElem?
  intro i
  rw [List.getElem?_map, List.getElem?_map, List.getElem?_map, setV_get]
  by_cases hij : i = j
  · subst hij
    rw [if_pos rfl, hj]
    exact congrArg some (if_pos hk).symm
  · rw [if_neg hij]
    cases hi : es[i]? with
    | none => rfl
    | some x =>
     refine congrArg some (if_neg (fun h => ?_)).symm
     have h : x.1 = .string k := h
     have := two_count is (l := es.map pOf) (i := i) (j := j) (x := pOf x) (y := pOf e) (by rw [List.getElem?_map, hi]; rfl) (by rw [List.getElem?_map, hj]; rfl) (decide_eq_true h) (decide_eq_true hk) hij
     omega
 rw [e1, e2]
 exact hp.map g
theorem sim_updateB (r : R w0 φ h w) {T : TypeId} {x k v x' k' v' : Value} (hs : aUpdateB P T x k v h = some h') (hx : VR φ x x') (hk : VR φ k k') (hv : VR φ v v') :
   ∃ w', (Instr.mapUpdate T x' k' v').run P w = .ok () w' ∧ Nx φ φ h h' ∧ R w0 φ h' w' := by
 unfold aUpdateB at hs
 split at hs
 · rename_i b s
   cases hk
   obtain ⟨i, hi, rfl⟩ := hx.map_inv
   split at hs
   · rename_i bs ho
     obtain ⟨arr, cl, es, g1, g2, g3, g4, g5⟩ := r.bag (P := P) hi ho
     split at hs
     · rename_i kt el hu
       split at hs
       · rename_i hkt
         split at hs
         · rename_i u hck hbv
           cases hs
           rw [Bool.and_eq_true] at hck
           have hc := checkKey_ok hck.1 w
           rcases find_bag (k := s) g3 (bag_str g4) 0 with ⟨h1, _⟩ | ⟨j, e, e', h1, h2, h3, h4, h5, h6⟩
           · exact (bag_has g4 hbv h1).elim
           · have hfk : (Instr.findKey kt (.string s) arr.toList).run P w = .ok (some (0 + j, e'.val)) w := by
               unfold Instr.findKey
               simp only [Sem.run_bind, run_underlying hkt, Result.andThen_ok, h6]
               rfl
             have hold : ((arr[0 + j]?.map (·.key)).getD (.string s)) = .string s := by
               rw [Array.getElem?_toList] at h2
               rw [Nat.zero_add, h2]; exact h5
             have hset : (setObj i.c (.map (arr.modify (0 + j) fun e => { e with key := .string s, val := v' }) cl)).run P w = .ok () (putW w i.c (.map (arr.modify (0 + j) fun e => { e with key := .string s, val := v' }) cl)) := by
               simp [setObj, Sem.run, g1, putW]
             refine ⟨putW w i.c (.map (arr.modify (0 + j) fun e => { e with key := .string s, val := v' }) cl), ?_, Nx.put hi trivial, r.put hi ho rfl (fun w' hw' => ⟨_, cl, setV es (0 + j) (.string s) v, hw', ?_, ?_⟩)⟩
             · unfold Instr.mapUpdate
               simp only [Sem.run_bind, run_underlying hu, Result.andThen_ok, g2, hc, hfk, hold, stays_ok hck.2, hset]
             · rw [toList_modify]
               exact g3.setV (.string s) hv (0 + j)
             · rw [Nat.zero_add]
               exact bag_setV g4 hbv h1 h3
         · cases hs
       · cases hs
     · cases hs
   · cases hs
 · cases hs
def leBs : List UInt8 → List UInt8 → Bool
 | [], _ => true
 | _ :: _, [] => false
 | a :: l, b :: m => Nat.blt a.toNat b.toNat || (Nat.beq a.toNat b.toNat && leBs l m)
def insB (x : ByteArray × Value) : List (ByteArray × Value) → List (ByteArray × Value)
 | [] => [x]
 | y :: l => match leBs x.1.data.toList y.1.data.toList with
  | true => x :: y :: l
  | false => y :: insB x l
theorem insB_perm (x : ByteArray × Value) : ∀ l, (insB x l).Perm (x :: l)
 | [] => .refl _
 | y :: l => by
  unfold insB
  split
  · exact .refl _
  · exact ((insB_perm x l).cons y).trans (.swap x y l)
def bagOf : List (Value × Value × Nat) → Option (List (ByteArray × Value))
 | [] => some []
 | (.string a, v, _) :: l => (match bagOf l with
  | some m => some (insB (a, v) m)
  | none => none)
 | _ :: _ => none
theorem bagOf_perm : ∀ {es : List (Value × Value × Nat)} {m : List (ByteArray × Value)}, bagOf es = some m → (es.map pOf).Perm (m.map qOf)
 | [], m, h => by cases h; exact .refl _
 | (k, v, b) :: l, m, h => by
  unfold bagOf at h
  split at h
  · rename_i heq; cases heq
  · rename_i a v' b' l' heq
    cases heq
    split at h
    · rename_i m' hm
      cases h
      exact ((bagOf_perm hm).cons (Value.string a, v)).trans ((insB_perm (a, v) m').symm.map qOf)
    · cases h
  · cases h
def bag1 (o : Option AObj) : Option AObj := match o with
 | some (.map (e1 :: e2 :: es) _ false) => (match bagOf (e1 :: e2 :: es) with
  | some m => some (.bag m)
  | none => none)
 | _ => none
def bagN (lo : Nat) (k : Nat) (t : T AObj) : T AObj := Nat.rec (motive := fun _ => T AObj → T AObj) (fun t => t) (fun i ih t => match bag1 (t.get (Nat.add lo i)) with
 | some o => ih (t.set (Nat.add lo i) (some o))
 | none => ih t) k t
def bagH (lo : Nat) (h : AH) : AH := ⟨bagN lo (Nat.sub h.next lo) h.m, h.next⟩
end
end Go.X
