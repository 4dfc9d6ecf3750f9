/- Parts of the closed evaluator. -/
import Derived.Test.YtjealfplbigphaaGreatZb
import Derived.Lib.Builder
import Derived.Lib.UnsafeStr
import Derived.RangeFuncRecord
import Derived.OrdersIn
import Derived.Lib.ConvBytes
namespace Go.X
noncomputable section
open Go Go.RowKit
variable {w0 w w' : World} {φ φ' : Phi} {h h' : AH} {P : Program}
def aPart (P : Program) (T : TypeId) (l : List Value) (off : Nat) : Option Value := match P.underlying T with
 | some d => if isAg d then (match szOf P T with
  | some k => some (.agg ⟨(l.take (off + k)).drop off⟩)
  | none => none) else l[off]?
 | none => none
theorem xv7 {T : TypeId} {l l' : List Value} {off : Nat} {v : Value} (hs : aPart P T l off = some v) (hl : LR φ l l') (w : World) : ∃ v', (part T ⟨l'⟩ off).run P w = .ok v' w /\ VR φ v v' := by
 unfold aPart at hs
 split at hs
 . rename_i d hd
   unfold part
   simp only [Sem.run_bind, rA hd, Result.andThen_ok]
   split at hs
   . rename_i hag
     split at hs
     . rename_i k hk
       cases hs
       rw [hag]
       simp only [if_true, Sem.run_bind, rSz hk, Result.andThen_ok, Sem.run_pure]
       refine ⟨_, rfl, ?_⟩
       have e : (⟨l'⟩ : Array Value).extract off (off + k) = ⟨(l'.take (off + k)).drop off⟩ := by
        apply Array.ext'
        simp [List.drop_take]
       rw [e]
       exact .agg' ((hl.take _).drop _)
     . cases hs
   . rename_i hag
     simp only [Bool.not_eq_true] at hag
     rw [hag]
     obtain ⟨v', h1, h2⟩ := hl.get hs
     refine ⟨v', ?_, h2⟩
     simp [h1]
 . cases hs
theorem VR.agg_inv {l : List Value} {v : Value} (hv : VR φ (.agg ⟨l⟩) v) : ∃ l', v = .agg ⟨l'⟩ /\ LR φ l l' := by
 cases hv with
 | agg ha h => exact ⟨_, rfl, LR.of ha h⟩
theorem VR.tuple_inv {l : List Value} {v : Value} (hv : VR φ (.tuple ⟨l⟩) v) : ∃ l', v = .tuple ⟨l'⟩ /\ LR φ l l' := by
 cases hv with
 | tuple ha h => exact ⟨_, rfl, LR.of ha h⟩
def aFieldV (P : Program) (T : TypeId) (x : Value) (f : Nat) : Option Value := match P.underlying T, x with
 | some (.struct fs), .agg ⟨l⟩ => (match fs[f]? with
  | some fd => aPart P fd.type l fd.offset
  | none => none)
 | _, _ => none
theorem xz2 (r : R w0 φ h w) {T : TypeId} {x x' v : Value} {f : Nat} (hs : aFieldV P T x f = some v) (hx : VR φ x x') : SimV w0 P φ h w (Instr.field T x' f) v h := by
 unfold aFieldV at hs
 split at hs
 . rename_i fs l hu
   split at hs
   . rename_i fd hf
     obtain ⟨l', rfl, hl⟩ := hx.agg_inv
     obtain ⟨v', h1, h2⟩ := xv7 hs hl w
     refine .here r ?_ h2
     simp only [Instr.field, Sem.run_bind, run_underlying hu, Result.andThen_ok, hf, asAgg, Sem.run_pure, h1]
   . cases hs
 . cases hs
def aIndexV (P : Program) (T : TypeId) (x i : Value) : Option Value := match P.underlying T, x, i with
 | some (.array n el), .agg ⟨l⟩, .int _ j => if 0 ≤ j /\ j < n then (match szOf P el with
  | some k => aPart P el l (j.toNat * k)
  | none => none) else none
 | some .string, .string s, .int _ j => if 0 ≤ j then (match s.data.toList[j.toNat]? with
  | some b => some (.int .u8 b.toNat)
  | none => none) else none
 | _, _, _ => none
theorem xz1 (r : R w0 φ h w) {T : TypeId} {x x' i i' v : Value} (hs : aIndexV P T x i = some v) (hx : VR φ x x') (hi : VR φ i i') : SimV w0 P φ h w (Instr.index T x' i') v h := by
 unfold aIndexV at hs
 split at hs
 . rename_i n el l k j hu
   split at hs
   . rename_i hc
     split at hs
     . rename_i k hk
       obtain ⟨l', rfl, hl⟩ := hx.agg_inv
       obtain rfl := hi.int_inv
       obtain ⟨v', h1, h2⟩ := xv7 hs hl w
       refine .here r ?_ h2
       simp only [Instr.index, asIntOf, Sem.run_pure, Sem.run_bind, run_underlying hu, Result.andThen_ok]
       rw [if_pos hc]
       simp only [Sem.run_bind, rSz hk, Result.andThen_ok, h1]
     . cases hs
   . cases hs
 . rename_i s k j hu
   split at hs
   . rename_i hc
     split at hs
     . rename_i b hb
       cases hs
       cases hx
       obtain rfl := hi.int_inv
       refine .here r (v' := .int .u8 b.toNat) ?_ (.int _ _)
       have hb' : s[j.toNat]? = some b := by
        have hlt := (List.getElem?_eq_some_iff.1 hb).1
        have hlt2 : j.toNat < s.size := by rw [Array.length_toList] at hlt; exact hlt
        rw [getElem?_pos s j.toNat hlt2]
        rw [List.getElem?_eq_getElem hlt] at hb
        have : s[j.toNat] = s.data[j.toNat]'hlt2 := rfl
        rw [this]; simpa using hb
       simp only [Instr.index, asIntOf, Sem.run_pure, Sem.run_bind, run_underlying hu, Result.andThen_ok]
       rw [if_pos hc, hb']
       rfl
     . cases hs
   . cases hs
 . cases hs
def splice (l : List Value) (off : Nat) (v : List Value) : List Value := l.take off ++ v ++ l.drop (off + v.length)
theorem LR.splice {l l' v v' : List Value} (hl : LR φ l l') (hv : LR φ v v') (off : Nat) : LR φ (X.splice l off v) (X.splice l' off v') := by
 unfold X.splice
 rw [<- hv.length]
 exact ((hl.take _).append hv).append (hl.drop _)
def aFill (place : Nat -> Option (Nat × Nat)) (cells : List Value) : List (Nat × Value) -> Option (List Value)
 | [] => some cells
 | (i, v) :: rest => match place i with
  | none => none
  | some (off, size) => if (cellsL v).length ≠ size ∨ off + (cellsL v).length > cells.length then none else aFill place (splice cells off (cellsL v)) rest
theorem qg4 : ∀ (vs : List Value) (cells : List Value) (off q : Nat), off + q + vs.length ≤ cells.length ->
  (vs.zipIdx q).foldl (fun (cs : Array Value) (p : Value × Nat) => cs.setIfInBounds (off + p.2) p.1) ⟨cells⟩ = ⟨splice cells (off + q) vs⟩
 | [], cells, off, q, h => by simp [splice]
 | v :: vs, cells, off, q, h => by
  simp only [List.length_cons] at h
  simp only [List.zipIdx_cons, List.foldl_cons]
  have e : (⟨cells⟩ : Array Value).setIfInBounds (off + q) v = ⟨cells.set (off + q) v⟩ := by apply Array.ext'; simp
  rw [e, qg4 vs _ off (q + 1) (by simp; omega)]
  congr 1
  unfold splice
  apply List.ext_getElem?
  intro j
  simp only [List.length_cons]
  have hl : off + q < cells.length := by omega
  by_cases h1 : j < off + q
  . rw [List.getElem?_append_left (by simp; omega), List.getElem?_append_left (by simp; omega), List.getElem?_take, if_pos (by omega), List.getElem?_set_ne (by omega),
      List.getElem?_append_left (by simp; omega), List.getElem?_append_left (by simp; omega), List.getElem?_take, if_pos h1]
  . by_cases h2 : j = off + q
    . subst h2
      rw [List.getElem?_append_left (by simp; omega), List.getElem?_append_left (by simp; omega), List.getElem?_take, if_pos (by omega), List.getElem?_set_self (by omega)]
      rw [List.getElem?_append_left (by simp; omega), List.getElem?_append_right (by simp; omega)]
      simp [Nat.min_eq_left (Nat.le_of_lt hl)]
    . by_cases h3 : j < off + q + 1 + vs.length
      . rw [List.getElem?_append_left (by simp; omega), List.getElem?_append_right (by simp; omega), List.getElem?_append_left (by simp; omega), List.getElem?_append_right (by simp; omega)]
        simp only [List.length_take, List.length_set]
        rw [show min (off + (q + 1)) cells.length = off + q + 1 by omega, show min (off + q) cells.length = off + q by omega]
        rw [show j - (off + q) = (j - (off + q + 1)) + 1 by omega]
        simp
      . rw [List.getElem?_append_right (by simp; omega), List.getElem?_append_right (by simp; omega)]
        simp only [List.length_append, List.length_take, List.length_set, List.length_cons, List.getElem?_drop]
        rw [List.getElem?_set_ne (by omega)]
        congr 1
        omega
theorem yy1 {place : Nat -> Option (Nat × Nat)} : ∀ (parts parts' : List (Nat × Value)) {cells cells' out : List Value}, aFill place cells parts = some out -> LR φ cells cells' ->
  (parts.length = parts'.length /\ ∀ (k : Nat) (p p' : Nat × Value), parts[k]? = some p -> parts'[k]? = some p' -> p.1 = p'.1 /\ VR φ p.2 p'.2) ->
  ∃ out', Instr.fill place ⟨cells'⟩ parts' = some ⟨out'⟩ /\ LR φ out out'
 | [], parts', cells, cells', out, hs, hc, hp => by
  have : parts' = [] := List.eq_nil_of_length_eq_zero (by simpa using hp.1.symm)
  subst this
  simp only [aFill] at hs
  cases hs
  exact ⟨cells', rfl, hc⟩
 | (i, v) :: rest, [], cells, cells', out, hs, hc, hp => by simp at hp
 | (i, v) :: rest, (i', v') :: rest', cells, cells', out, hs, hc, hp => by
  have h0 := hp.2 0 (i, v) (i', v') rfl rfl
  obtain ⟨rfl, hv⟩ := h0
  simp only [aFill] at hs
  simp only [Instr.fill]
  cases hpl : place i with
  | none => rw [hpl] at hs; cases hs
  | some p =>
   obtain ⟨off, size⟩ := p
   rw [hpl] at hs
   dsimp only at hs ⊢
   split at hs
   . cases hs
   . rename_i hcond
     have hsz : v'.cells.size = (cellsL v).length := by rw [F7, hv.cells.length]; rfl
     have hcl : (⟨cells'⟩ : Array Value).size = cells.length := by rw [hc.length]; rfl
     rw [if_neg (by rw [hsz, hcl]; simpa only [Bool.or_eq_true, decide_eq_true_eq] using hcond)]
     have hfold : v'.cells.zipIdx.foldl (fun cs (c, j) => cs.setIfInBounds (off + j) c) (⟨cells'⟩ : Array Value) = ⟨splice cells' off (cellsL v')⟩ := by
      have := qg4 (cellsL v') cells' off 0 (by
       have e1 := hv.cells.length
       have e2 := hc.length
       dsimp only at e1 hcond
       omega)
      rw [Nat.add_zero] at this
      rw [<- this, F7, <- Array.foldl_toList]
      simp
     rw [hfold]
     exact yy1 rest rest' hs (hc.splice hv.cells off) ⟨by simpa using hp.1, fun k p p' h1 h2 => hp.2 (k + 1) p p' (by simpa using h1) (by simpa using h2)⟩
def aPlaces (P : Program) : List Field -> Option (List (Nat × Nat))
 | [] => some []
 | f :: fs => match szOf P f.type, aPlaces P fs with
  | some k, some l => some ((f.offset, k) :: l)
  | _, _ => none
theorem jy7 : ∀ {fs : List Field} {l : List (Nat × Nat)}, aPlaces P fs = some l -> ∀ (w : World), ((⟨fs⟩ : Array Field).mapM (m := Sem) fun f => do pure (f.offset, <- sizeOf f.type)).run P w = .ok ⟨l⟩ w := by
 intro fs
 have key : ∀ (fs : List Field) {l : List (Nat × Nat)}, aPlaces P fs = some l -> ∀ (w : World), (fs.mapM (m := Sem) fun f => do pure (f.offset, <- sizeOf f.type)).run P w = .ok l w := by
  intro fs
  induction fs with
  | nil => intro l h w; simp only [aPlaces] at h; cases h; simp
  | cons f fs ih =>
   intro l h w
   simp only [aPlaces] at h
   split at h
   . rename_i k l' hk hl
     cases h
     rw [List.mapM_cons]
     simp only [Sem.run_bind, rSz hk, Result.andThen_ok, Sem.run_pure, ih hl]
   . cases h
 intro l h w
 have : (⟨fs⟩ : Array Field).mapM (m := Sem) (fun f => do pure (f.offset, <- sizeOf f.type)) = List.toArray <$> (fs.mapM (m := Sem) fun f => do pure (f.offset, <- sizeOf f.type)) := List.mapM_toArray
 rw [this]
 have e : (List.toArray <$> (fs.mapM (m := Sem) fun f => do pure (f.offset, <- sizeOf f.type)) : Sem (Array (Nat × Nat))) = (fs.mapM (m := Sem) fun f => do pure (f.offset, <- sizeOf f.type)) >>= fun l => pure l.toArray := rfl
 rw [e, Sem.run_bind, key fs h, Result.andThen_ok]
 rfl
def aParts (P : Program) (T : TypeId) : Option (Nat -> Option (Nat × Nat)) := match P.underlying T with
 | some (.struct ⟨fs⟩) => (match aPlaces P fs with
  | some l => some (fun i => l[i]?)
  | none => none)
 | some (.array _ el) => (match szOf P el with
  | some k => some (fun i => some (i * k, k))
  | none => none)
 | _ => none
def aBuild (P : Program) (T : TypeId) (parts : List (Nat × Value)) : Option Value := match zeroOf P T, aParts P T with
 | some z, some pl => (match aFill pl (cellsL z) parts with
  | some l => some (.agg ⟨l⟩)
  | none => none)
 | _, _ => none
inductive PR (φ : Phi) : List (Nat × Value) -> List (Nat × Value) -> Prop
 | nil : PR φ [] []
 | cons {i : Nat} {v v' : Value} {l l' : List (Nat × Value)} (h : VR φ v v') (t : PR φ l l') : PR φ ((i, v) :: l) ((i, v') :: l')
theorem PR.two {l l' : List (Nat × Value)} (h : PR φ l l') : l.length = l'.length /\ ∀ (k : Nat) (p p' : Nat × Value), l[k]? = some p -> l'[k]? = some p' -> p.1 = p'.1 /\ VR φ p.2 p'.2 := by
 induction h with
 | nil => exact ⟨rfl, fun k p p' h1 => by simp at h1⟩
 | cons h t ih =>
  refine ⟨by simp [ih.1], fun k p p' h1 h2 => ?_⟩
  cases k with
  | zero => simp at h1 h2; subst h1; subst h2; exact ⟨rfl, h⟩
  | succ k => exact ih.2 k p p' (by simpa using h1) (by simpa using h2)
theorem jz5 (r : R w0 φ h w) {T : TypeId} {parts parts' : List (Nat × Value)} {v : Value} (hs : aBuild P T parts = some v) (hp : PR φ parts parts') : SimV w0 P φ h w (Instr.build T ⟨parts'⟩) v h := by
 unfold aBuild at hs
 split at hs
 . rename_i z pl hz hpl
   split at hs
   . rename_i l hl
     cases hs
     obtain ⟨hz1, hz2⟩ := rZero hz w
     obtain ⟨out', h1, h2⟩ := yy1 parts parts' hl (Z9 φ hz2).cells hp.two
     refine .here r (v' := .agg ⟨out'⟩) ?_ (.agg' h2)
     unfold aParts at hpl
     unfold Instr.build
     simp only [Sem.run_bind, hz1, Result.andThen_ok, F7]
     split at hpl
     . rename_i fs hu
       split at hpl
       . rename_i pls hpls
         cases hpl
         simp only [run_underlying hu, Result.andThen_ok, Sem.run_bind, jy7 hpls]
         have e : (fun i => (⟨pls⟩ : Array (Nat × Nat))[i]?) = fun (i : Nat) => pls[i]? := by funext i; simp
         rw [e, h1]
         rfl
       . cases hpl
     . rename_i n el hu
       split at hpl
       . rename_i k hk
         cases hpl
         simp only [run_underlying hu, Result.andThen_ok, Sem.run_bind, rSz hk, h1]
         rfl
       . cases hpl
     . cases hpl
   . cases hs
 . cases hs
def aMkI (P : Program) (T : TypeId) (x : Value) : Option Value := match P.underlying T with
 | some (.interface _) => none
 | some _ => some (.iface T x)
 | none => none
theorem ug7 (r : R w0 φ h w) {T : TypeId} {x x' v : Value} (hs : aMkI P T x = some v) (hx : VR φ x x') : SimV w0 P φ h w (Instr.makeInterface T x') v h := by
 unfold aMkI at hs
 split at hs
 . cases hs
 . rename_i d hd hu
   cases hs
   refine .here r (v' := .iface T x') ?_ (.iface hx)
   unfold Instr.makeInterface
   simp only [Sem.run_bind, run_underlying hu, Result.andThen_ok]
   cases d <;> first | rfl | exact (hd _ rfl).elim
 . cases hs
def aExtract (x : Value) (i : Nat) : Option Value := match x with
 | .tuple ⟨l⟩ => l[i]?
 | _ => none
theorem yu0 (r : R w0 φ h w) {x x' v : Value} {i : Nat} (hs : aExtract x i = some v) (hx : VR φ x x') : SimV w0 P φ h w (Instr.extract x' i) v h := by
 unfold aExtract at hs
 split at hs
 . rename_i l
   obtain ⟨l', rfl, hl⟩ := hx.tuple_inv
   obtain ⟨v', h1, h2⟩ := hl.get hs
   exact .here r (by simp [Instr.extract, h1]) h2
 . cases hs
def aAssert (P : Program) (x : Value) (T : TypeId) (c : Bool) : Option Value := match P.underlying T with
 | some (.interface want) => (match x with
  | .nilIface => if c then (match zeroOf P T with | some z => some (.tuple #[z, .bool false]) | none => none) else none
  | .iface t _ => (match P.info? t with
   | some i => (match Instr.missingMethod want i.methods with
    | none => some (tupOk c x true)
    | some _ => if c then (match zeroOf P T with | some z => some (.tuple #[z, .bool false]) | none => none) else none)
   | none => none)
  | _ => none)
 | some _ => (match x with
  | .nilIface => if c then (match zeroOf P T with | some z => some (.tuple #[z, .bool false]) | none => none) else none
  | .iface t v => if t = T then some (tupOk c v true) else if c then (match zeroOf P T with | some z => some (.tuple #[z, .bool false]) | none => none) else none
  | _ => none)
 | none => none
theorem xz5 (r : R w0 φ h w) {xT T : TypeId} {x x' v : Value} {c : Bool} (hs : aAssert P x T c = some v) (hx : VR φ x x') : SimV w0 P φ h w (Instr.typeAssert x' xT T c) v h := by
 have fails : ∀ {v : Value}, (if c then (match zeroOf P T with | some z => some (.tuple #[z, .bool false]) | none => none) else none) = some v -> ∃ z, c = true /\ v = .tuple #[z, .bool false] /\ (zeroValue T).run P w = .ok z w /\ VR φ z z := by
   intro v hv
   split at hv
   . rename_i hc
     split at hv
     . rename_i z hz
       cases hv
       obtain ⟨hz1, hz2⟩ := rZero hz w
       exact ⟨z, hc, rfl, hz1, Z9 φ hz2⟩
     . cases hv
   . cases hv
 unfold aAssert at hs
 split at hs
 . rename_i want hu
   split at hs
   . cases hx
     obtain ⟨z, hc, rfl, h1, h2⟩ := fails hs
     subst hc
     refine .here r (v' := .tuple #[z, .bool false]) ?_ (.tuple' (.cons h2 (.cons (.bool _) .nil)))
     simp [Instr.typeAssert, run_underlying hu, h1]
   . rename_i t v0
     split at hs
     . rename_i i hi
       have hx' : ∃ v', x' = .iface t v' := by cases hx; exact ⟨_, rfl⟩
       obtain ⟨v', rfl⟩ := hx'
       split at hs
       . rename_i hm
         cases hs
         refine .here r (v' := tupOk c (.iface t v') true) ?_ (qv0 hx)
         simp [Instr.typeAssert, run_underlying hu, rI hi, hm, tupOk]
       . rename_i m hm
         obtain ⟨z, hc, rfl, h1, h2⟩ := fails hs
         subst hc
         refine .here r (v' := .tuple #[z, .bool false]) ?_ (.tuple' (.cons h2 (.cons (.bool _) .nil)))
         simp [Instr.typeAssert, run_underlying hu, rI hi, hm, h1]
     . cases hs
   . cases hs
 . rename_i d hd hu
   split at hs
   . cases hx
     obtain ⟨z, hc, rfl, h1, h2⟩ := fails hs
     subst hc
     refine .here r (v' := .tuple #[z, .bool false]) ?_ (.tuple' (.cons h2 (.cons (.bool _) .nil)))
     cases d <;> first | exact (hd _ rfl).elim | simp [Instr.typeAssert, run_underlying hu, h1]
   . rename_i t v0
     have hx' : ∃ v', x' = .iface t v' /\ VR φ v0 v' := by cases hx with | iface h => exact ⟨_, rfl, h⟩
     obtain ⟨v', rfl, hv⟩ := hx'
     split at hs
     . rename_i ht
       cases hs
       subst ht
       refine .here r (v' := tupOk c v' true) ?_ (qv0 hv)
       cases d <;> first | exact (hd _ rfl).elim | simp [Instr.typeAssert, run_underlying hu, tupOk]
     . rename_i ht
       obtain ⟨z, hc, rfl, h1, h2⟩ := fails hs
       subst hc
       refine .here r (v' := .tuple #[z, .bool false]) ?_ (.tuple' (.cons h2 (.cons (.bool _) .nil)))
       cases d <;> first | exact (hd _ rfl).elim | simp [Instr.typeAssert, run_underlying hu, h1, ht]
   . cases hs
 . cases hs
end
end Go.X
namespace Go.X
noncomputable section
open Go Go.RowKit
variable {w0 w w' : World} {φ φ' : Phi} {h h' : AH} {P : Program} {n : Nat} {t : T Value}
def rwB (h : AH) (b : Nat) : Bool := match h.m.get b with
 | some (.cells _ _ _ false) => true
 | some (.tcells _ _ _ _) => true
 | _ => false
theorem jw9 (r : R w0 φ h w) {b : Nat} {i : Im} (hi : φ b = some i) (hr : rwB h b = true) : ∃ o arr el, h.m.get b = some o /\ o.ro = false /\ w.heap[i.c]? = some (.cells arr el (0, 0)) := by
 unfold rwB at hr
 split at hr
 . rename_i c n op hg
   obtain ⟨_, _, _, arr, el, ⟨fz, hw, hr1, _⟩, _⟩ := r.dom _ _ _ hi hg
   cases hr1 rfl
   exact ⟨_, arr, el, hg, rfl, hw⟩
 . rename_i ty c n op hg
   obtain ⟨_, _, _, arr, hw, _⟩ := r.dom _ _ _ hi hg
   exact ⟨_, arr, ty, hg, rfl, hw⟩
 . cases hr
theorem yq7 (r : R w0 φ h w) {a b : Addr} {i j : Im} {va vb : Value} (hi : φ a.block = some i) (hj : φ b.block = some j) (_ha : h.cell a = some va) (_hb : h.cell b = some vb) (hra : rwB h a.block = true) (hrb : rwB h b.block = true) :
   (sameAddr ⟨i.c, a.off + i.d, none⟩ ⟨j.c, b.off + j.d, none⟩).run P w = .ok (decide (a.block = b.block /\ a.off = b.off)) w := by
 obtain ⟨oa, arr, el, hga, hra, hw⟩ := jw9 r hi hra
 obtain ⟨ob, arr2, el2, hgb, hrb, hw2⟩ := jw9 r hj hrb
 unfold sameAddr
 by_cases e : a.block = b.block
 . rw [e] at hi
   rw [hi] at hj; cases hj
   have : ((i.c == i.c) : Bool) = true := by simp
   rw [if_pos this]
   simp only [Sem.run_pure]
   congr 1
   by_cases e2 : a.off = b.off
   . simp [e, e2]
   . have : ¬ (a.off + i.d = b.off + i.d) := by omega
     simp [e2]
 . have hne : i.c ≠ j.c := fun hc => e (r.inj _ _ _ _ _ _ hi hj hga hgb hra hc)
   rw [if_neg (by simpa using hne)]
   have e3 : decide (a.block = b.block /\ a.off = b.off) = false := by simp [e]
   rw [e3]
   simp [noView, viewAt, mayBeOne, stringish, frozen, shape, Sem.run, World.frozen?, World.shape?, hw, hw2]
def aEqV (P : Program) (T : TypeId) (x y : Value) (h : AH) : Option Bool := match P.underlying T, x, y with
 | some (.pointer _), .pointer none, .pointer b => some b.isNone
 | some (.pointer _), .pointer (some _), .pointer none => some false
 | some (.pointer el), .pointer (some a), .pointer (some b) => (match szOf P el, h.cell a, h.cell b with
  | some (_ + 1), some _, some _ => if rwB h a.block && rwB h b.block then some (decide (a.block = b.block /\ a.off = b.off)) else none
  | _, _, _ => none)
 | some (.interface _), .nilIface, .iface _ _ => some false
 | some (.interface _), .iface _ _, .nilIface => some false
 | some (.slice _), .slice none _ _, .slice b _ _ => some b.isNone
 | some (.slice _), .slice (some _) _ _, .slice none _ _ => some false
 | some (.map _ _), .map none, .map b => some b.isNone
 | some (.map _ _), .map (some _), .map none => some false
 | some (.func _ _ _), .nilFunc, .func _ _ _ => some false
 | some (.func _ _ _), .func _ _ _, .nilFunc => some false
 | _, _, _ => none
theorem xw4 (r : R w0 φ h w) {T : TypeId} {x y x' y' : Value} {b : Bool} (hs : aEqV P T x y h = some b) (hx : VR φ x x') (hy : VR φ y y') (d : Nat) : (Op.equalIn (d + 1) T x' y').run P w = .ok b w := by
 unfold aEqV at hs
 split at hs
 . rename_i el b' hu
   cases hs; cases hx
   cases hy <;> simp only [Op.equalIn, Sem.run_bind, run_underlying hu, Result.andThen_ok] <;> rfl
 . rename_i el a hu
   cases hs
   obtain ⟨i, hi, _, rfl⟩ := hx.ptr_inv
   cases hy
   simp only [Op.equalIn, Sem.run_bind, run_underlying hu, Result.andThen_ok]; rfl
 . rename_i el a b0 hu
   split at hs
   . rename_i k va vb hk ha hb
     by_cases hrw : (rwB h a.block && rwB h b0.block) = true
     case neg => rw [if_neg hrw] at hs; cases hs
     rw [if_pos hrw] at hs
     rw [Bool.and_eq_true] at hrw
     cases hs
     obtain ⟨i, hi, _, rfl⟩ := hx.ptr_inv
     obtain ⟨j, hj, _, rfl⟩ := hy.ptr_inv
     have := yq7 (P := P) r hi hj ha hb hrw.1 hrw.2
     simp only [Op.equalIn, Sem.run_bind, run_underlying hu, rSz hk, Result.andThen_ok]
     rw [if_pos (by omega)]; exact this
   . cases hs
 . rename_i ms t0 v0 hu
   cases hs; cases hx; cases hy
   simp only [Op.equalIn, Sem.run_bind, run_underlying hu, Result.andThen_ok]; rfl
 . rename_i ms t0 v0 hu
   cases hs; cases hx; cases hy
   simp only [Op.equalIn, Sem.run_bind, run_underlying hu, Result.andThen_ok]; rfl
 . rename_i el l c b0 l2 c2 hu
   cases hs; cases hx
   cases hy <;> simp only [Op.equalIn, Sem.run_bind, run_underlying hu, Result.andThen_ok] <;> rfl
 . rename_i el a l c l2 c2 hu
   cases hs
   cases hy
   cases hx <;> simp only [Op.equalIn, Sem.run_bind, run_underlying hu, Result.andThen_ok] <;> rfl
 . rename_i k el b0 hu
   cases hs; cases hx
   cases hy <;> simp only [Op.equalIn, Sem.run_bind, run_underlying hu, Result.andThen_ok] <;> rfl
 . rename_i k el b0 hu
   cases hs
   cases hy
   obtain ⟨i, _, rfl⟩ := hx.map_inv
   simp only [Op.equalIn, Sem.run_bind, run_underlying hu, Result.andThen_ok]; rfl
 . rename_i a1 a2 a3 f a b0 hu
   cases hs; cases hx; cases hy
   simp only [Op.equalIn, Sem.run_bind, run_underlying hu, Result.andThen_ok]; rfl
 . rename_i a1 a2 a3 f a b0 hu
   cases hs; cases hx; cases hy
   simp only [Op.equalIn, Sem.run_bind, run_underlying hu, Result.andThen_ok]; rfl
 . cases hs
def plainPair : Value -> Value -> Bool
 | .pointer _, .pointer _ | .nilIface, .iface _ _ | .iface _ _, .nilIface | .slice _ _ _, .slice _ _ _ | .map _, .map _ | .nilFunc, .func _ _ _ | .func _ _ _, .nilFunc => true
 | _, _ => false
theorem yk9 {T : TypeId} {x y : Value} {b : Bool} (hs : aEqV P T x y h = some b) : plainPair x y = true := by
 unfold aEqV at hs
 split at hs <;> first | rfl | cases hs
theorem VR.pair {x y x' y' : Value} (hx : VR φ x x') (hy : VR φ y y') (hp : plainPair x y = true) : plainPair x' y' = true := by
 cases hx <;> cases hy <;> first | rfl | (simp [plainPair] at hp)
theorem zu6 {op : BinOp} {T : TypeId} {xo yo : Operand} {x y : Value} (hp : plainPair x y = true) (w : World) : (eqGuard op T xo yo x y).run P w = .ok () w := by
 unfold eqGuard
 cases op <;> first | rfl | (cases x <;> cases y <;> first | rfl | (simp [plainPair] at hp))
theorem uq2 {T : TypeId} {x y : Value} (hp : plainPair x y = true) : binOp .eql T x y = (do pure (.bool (<- Op.equal T x y))) := by
 cases x <;> cases y <;> first | rfl | (simp [plainPair] at hp)
theorem uq1 {T : TypeId} {x y : Value} (hp : plainPair x y = true) : binOp .neq T x y = (do pure (.bool (!(<- Op.equal T x y)))) := by
 cases x <;> cases y <;> first | rfl | (simp [plainPair] at hp)
def aBinV (P : Program) (op : BinOp) (T : TypeId) (x y : Value) (h : AH) : Option Value := match op with
 | .eql => (match aEqV P T x y h with | some b => some (.bool b) | none => none)
 | .neq => (match aEqV P T x y h with | some b => some (.bool (!b)) | none => none)
 | _ => none
theorem jw5 (r : R w0 φ h w) {op : BinOp} {T : TypeId} {xo yo : Operand} {x y x' y' v : Value} (hs : aBinV P op T x y h = some v) (hx : VR φ x x') (hy : VR φ y y') :
   SimV w0 P φ h w (do eqGuard op T xo yo x' y'; binOp op T x' y') v h := by
 unfold aBinV at hs
 split at hs
 . split at hs
   . rename_i b hb
     cases hs
     have hp := hx.pair hy (yk9 hb)
     refine .here r (v' := .bool b) ?_ (.bool b)
     have := xw4 r hb hx hy 9999
     rw [Sem.run_bind, zu6 hp, Result.andThen_ok, uq2 hp, Sem.run_bind]
     unfold Op.equal
     rw [show Op.maxDepth = 9999 + 1 from rfl, this, Result.andThen_ok]
     rfl
   . cases hs
 . split at hs
   . rename_i b hb
     cases hs
     have hp := hx.pair hy (yk9 hb)
     refine .here r (v' := .bool (!b)) ?_ (.bool _)
     have := xw4 r hb hx hy 9999
     rw [Sem.run_bind, zu6 hp, Result.andThen_ok, uq1 hp, Sem.run_bind]
     unfold Op.equal
     rw [show Op.maxDepth = 9999 + 1 from rfl, this, Result.andThen_ok]
     rfl
   . cases hs
 . cases hs
def aStr (_ : BinOp) (_ _ : ByteArray) : Option Value := none
theorem ug5 (_ : R w0 φ h w) {op : BinOp} {T : TypeId} {xo yo : Operand} {a b : ByteArray} {v : Value} (hs : aStr op a b = some v) :
 SimV w0 P φ h w (do eqGuard op T xo yo (.string a) (.string b); binOp op T (.string a) (.string b)) v h := (Option.some_ne_none _ hs.symm).elim
def aB2S (_ : Program) (_ _ : TypeId) (_ : Value) (_ : AH) : Option Value := none
theorem ug9 (_ : R w0 φ h w) {sT dT : TypeId} {x x' v : Value} (hs : aB2S P sT dT x h = some v) (_ : VR φ x x') : SimV w0 P φ h w (convert sT dT x') v h := (Option.some_ne_none _ hs.symm).elim
end
end Go.X
namespace Go.X
noncomputable section
open Go Go.RowKit
variable {w0 w w' : World} {φ φ' : Phi} {h h' : AH} {P : Program}
def aUnsP (_ : Program) (_ _ : TypeId) (_ : Value) (_ : AH) : Option Value := none
theorem jw0 (_ : R w0 φ h w) {s d : TypeId} {x x' v : Value} (hs : aUnsP P s d x h = some v) (_ : VR φ x x') : SimV w0 P φ h w (convert s d x') v h := (Option.some_ne_none _ hs.symm).elim
def aSData (_ : Value) : Option Value := none
theorem jq9 (_ : R w0 φ h w) {Ts : Array TypeId} {ty : TypeId} {x x' v : Value} (hs : aSData x = some v) (_ : VR φ x x') : SimV w0 P φ h w (Builtin.unsafeSliceData_ Ts ty #[x']) v h := (Option.some_ne_none _ hs.symm).elim
def aUStr (_ : Program) (_ : TypeId) (_ _ : Value) (_ : AH) : Option (Value × AH) := none
theorem jk9 (_ : R w0 φ h w) {pt it ty : TypeId} {x n x' n' v : Value} (hs : aUStr P pt x n h = some (v, h')) (_ : VR φ x x') (_ : VR φ n n') : SimV w0 P φ h w (Builtin.unsafeString_ #[pt, it] ty #[x', n']) v h' := (Option.some_ne_none _ hs.symm).elim
end
end Go.X
namespace Go.X
noncomputable section
open Go Go.RowKit
variable {w0 w w' : World} {φ φ' : Phi} {h h' : AH} {P : Program} {n : Nat} {t : T Value}
inductive AN where
 | val (v : Value)
 | skip
 | enter (f : FuncId) (args : List Value)
 | round (b : Nat) (ts : T Value) (sz : Nat) (asg body : Code)
abbrev Outs := Option (List (AN × AH))
def ov (x : Option Value) (h : AH) : Outs := match x with | some v => some [(.val v, h)] | none => none
def ovh (x : Option (Value × AH)) : Outs := match x with | some (v, h) => some [(.val v, h)] | none => none
def osk (x : Option AH) : Outs := match x with | some h => some [(.skip, h)] | none => none
def oun (x : Option AH) : Outs := match x with | some h => some [(.val undef, h)] | none => none
inductive NR (φ : Phi) : AN -> Next -> Prop
 | val {v v' : Value} (h : VR φ v v') : NR φ (.val v) (.value v')
 | skip : NR φ .skip .skip
 | enter {f : FuncId} {l l' : List Value} (h : LR φ l l') : NR φ (.enter f l) (.enter f ⟨l'⟩)
 | round {b : Nat} {i : Im} {ts : T Value} {sz : Nat} {asg body : Code} {fn : FuncId} {arr : Array Value} (hb : φ b = some i) (hf : FR φ sz ts arr) : NR φ (.round b ts sz asg body) (.round i.c fn arr asg body)
def Sim (w0 : World) (P : Program) (φ : Phi) (h : AH) (w : World) (s : Sem Next) (l : List (AN × AH)) : Prop :=
 ∃ an h', (an, h') ∈ l /\ ∃ nx w' φ', s.run P w = .ok nx w' /\ Nx φ φ' h h' /\ R w0 φ' h' w' /\ NR φ' an nx
theorem Sim.ofV {s : Sem Value} {v : Value} {l : List (AN × AH)} (hs : SimV w0 P φ h w s v h') (hm : (.val v, h') ∈ l) : Sim w0 P φ h w (do pure (.value (<- s))) l := by
 obtain ⟨v', w', φ', h1, h2, h3, h4⟩ := hs
 exact ⟨_, _, hm, .value v', w', φ', by rw [Sem.run_bind, h1]; rfl, h2, h3, .val h4⟩
theorem Sim.ofU {s : Sem Unit} {l : List (AN × AH)} (hs : ∃ w', s.run P w = .ok () w' /\ Nx φ φ h h' /\ R w0 φ h' w') (hm : (.skip, h') ∈ l) : Sim w0 P φ h w (do s; pure .skip) l := by
 obtain ⟨w', h1, h2, h3⟩ := hs
 exact ⟨_, _, hm, .skip, w', φ, by rw [Sem.run_bind, h1]; rfl, h2, h3, .skip⟩
theorem Sim.ov {s : Sem Value} {x : Option Value} {l : List (AN × AH)} (hl : X.ov x h = some l) (hs : ∀ v, x = some v -> SimV w0 P φ h w s v h) : Sim w0 P φ h w (do pure (.value (<- s))) l := by
 unfold X.ov at hl
 split at hl
 . cases hl; exact .ofV (hs _ rfl) (List.mem_singleton.2 rfl)
 . cases hl
theorem Sim.ovh {s : Sem Value} {x : Option (Value × AH)} {l : List (AN × AH)} (hl : X.ovh x = some l) (hs : ∀ v h', x = some (v, h') -> SimV w0 P φ h w s v h') : Sim w0 P φ h w (do pure (.value (<- s))) l := by
 unfold X.ovh at hl
 split at hl
 . cases hl; exact .ofV (hs _ _ rfl) (List.mem_singleton.2 rfl)
 . cases hl
theorem Sim.oun {s : Sem Value} {x : Option AH} {l : List (AN × AH)} (hl : X.oun x = some l) (hs : ∀ h', x = some h' -> SimV w0 P φ h w s undef h') : Sim w0 P φ h w (do pure (.value (<- s))) l := by
 unfold X.oun at hl
 split at hl
 . cases hl; exact .ofV (hs _ rfl) (List.mem_singleton.2 rfl)
 . cases hl
theorem Sim.osk {s : Sem Unit} {x : Option AH} {l : List (AN × AH)} (hl : X.osk x = some l) (hs : ∀ h', x = some h' -> ∃ w', s.run P w = .ok () w' /\ Nx φ φ h h' /\ R w0 φ h' w') : Sim w0 P φ h w (do s; pure .skip) l := by
 unfold X.osk at hl
 split at hl
 . cases hl; exact .ofU (hs _ rfl) (List.mem_singleton.2 rfl)
 . cases hl
def aO (n : Nat) (t : T Value) (x : Operand) : Option Value := Operand.rec (motive := fun _ => Option Value)
 (fun k => Bool.rec (motive := fun _ => Option Value) (some (Option.rec (motive := fun _ => Value) undef (fun v => v) (t.get k))) none (Nat.ble n k))
 (fun v => Bool.rec (motive := fun _ => Option Value) none (some v) (pfv v)) (fun _ => none) (fun f => some (.func (.func f) #[] #[])) x
theorem uk5 (n : Nat) (t : T Value) (x : Operand) : aO n t x = if opnOk n x then aEv t x else none := by
 cases x with
 | tmp k =>
  show Bool.rec (motive := fun _ => Option Value) _ _ (Nat.ble n k) = _
  cases hb : Nat.ble n k with
  | true =>
   have : ¬ k < n := Nat.not_lt.2 (Nat.le_of_ble_eq_true hb)
   simp [opnOk, this]
  | false =>
   have : k < n := Nat.lt_of_not_le (fun hle => by rw [Nat.ble_eq_true_of_le hle] at hb; cases hb)
   simp only [opnOk, this, decide_true, if_true, aEv]
   cases t.get k <;> rfl
 | const v =>
  show Bool.rec (motive := fun _ => Option Value) _ _ (pfv v) = _
  cases hb : pfv v <;> simp [opnOk, aEv, hb]
 | global g => rfl
 | func f => rfl
theorem Z5 {a : Act} (f : FR φ n t a.tmps) {x : Operand} {v : Value} (hs : aO n t x = some v) : VR φ v (a.eval x) := by
 rw [uk5] at hs
 split at hs
 . exact aEv_ok f ‹_› hs
 . cases hs
def aOO (n : Nat) (t : T Value) : Option Operand -> Option (Option Value)
 | none => some none
 | some x => match aO n t x with | some v => some (some v) | none => none
theorem xj7 {a : Act} (f : FR φ n t a.tmps) {x : Option Operand} {v : Option Value} (hs : aOO n t x = some v) : OptR φ v (x.map a.eval) := by
 cases x with
 | none => simp only [aOO] at hs; cases hs; exact .none
 | some x =>
  simp only [aOO] at hs
  split at hs
  . rename_i v' hv; cases hs; exact .some (Z5 f hv)
  . cases hs
def aOs (n : Nat) (t : T Value) : List Operand -> Option (List Value)
 | [] => some []
 | x :: l => match aO n t x, aOs n t l with
  | some v, some m => some (v :: m)
  | _, _ => none
theorem zz8 {a : Act} (f : FR φ n t a.tmps) : ∀ {l : List Operand} {m : List Value}, aOs n t l = some m -> LR φ m (l.map a.eval)
 | [], m, hs => by simp only [aOs] at hs; cases hs; exact .nil
 | x :: l, m, hs => by
  simp only [aOs] at hs
  split at hs
  . rename_i v m' hv hm; cases hs; exact .cons (Z5 f hv) (zz8 f hm)
  . cases hs
def aPs (n : Nat) (t : T Value) : List (Nat × Operand) -> Option (List (Nat × Value))
 | [] => some []
 | (i, x) :: l => match aO n t x, aPs n t l with
  | some v, some m => some ((i, v) :: m)
  | _, _ => none
theorem xj5 {a : Act} (f : FR φ n t a.tmps) : ∀ {l : List (Nat × Operand)} {m : List (Nat × Value)}, aPs n t l = some m -> PR φ m (l.map fun p => (p.1, a.eval p.2))
 | [], m, hs => by simp only [aPs] at hs; cases hs; exact .nil
 | (i, x) :: l, m, hs => by
  simp only [aPs] at hs
  split at hs
  . rename_i v m' hv hm; cases hs; exact .cons (Z5 f hv) (xj5 f hm)
  . cases hs
def aPure (P : Program) (s : Sem Value) : Option Value := match pureRun P s with
 | some v => if pfv v then some v else none
 | none => none
theorem qq5 (r : R w0 φ h w) {s : Sem Value} {v : Value} (hs : aPure P s = some v) : SimV w0 P φ h w s v h := by
 unfold aPure at hs
 split at hs
 . rename_i v' hv
   split at hs
   . cases hs; exact .here r (qz3 hv w) (Z9 φ ‹_›)
   . cases hs
 . cases hs
def aBin (P : Program) (op : BinOp) (T : TypeId) (xo yo : Operand) (x y : Value) (h : AH) : Option Value := match x, y with
 | .int _ _, .int _ _ => aPure P (do eqGuard op T xo yo x y; binOp op T x y)
 | .string a, .string b => aStr op a b
 | _, _ => match aBinV P op T x y h with
  | some v => some v
  | none => if pfv x && pfv y then aPure P (do eqGuard op T xo yo x y; binOp op T x y) else none
theorem ug8 (r : R w0 φ h w) {op : BinOp} {T : TypeId} {xo yo : Operand} {x y x' y' v : Value} (hs : aBin P op T xo yo x y h = some v) (hx : VR φ x x') (hy : VR φ y y') :
   SimV w0 P φ h w (do eqGuard op T xo yo x' y'; binOp op T x' y') v h := by
 unfold aBin at hs
 split at hs
 . obtain rfl := hx.int_inv
   obtain rfl := hy.int_inv
   exact qq5 r hs
 . cases hx; cases hy
   exact ug5 r hs
 . split at hs
   . rename_i v' hv
     cases hs
     exact jw5 r hv hx hy
   . split at hs
     . rename_i hp
       simp only [Bool.and_eq_true] at hp
       obtain rfl := U4 hp.1 hx
       obtain rfl := U4 hp.2 hy
       exact qq5 r hs
     . cases hs
def aConv (P : Program) (s d : TypeId) (x : Value) (h : AH) : Option Value := match aB2S P s d x h with
 | some v => some v
 | none => (match aUnsP P s d x h with
  | some v => some v
  | none => if pfv x then aPure P (convert s d x) else none)
theorem jw4 (r : R w0 φ h w) {s d : TypeId} {x x' v : Value} (hs : aConv P s d x h = some v) (hx : VR φ x x') : SimV w0 P φ h w (convert s d x') v h := by
 unfold aConv at hs
 split at hs
 . rename_i v' hv
   cases hs
   exact ug9 r hv hx
 . split at hs
   . rename_i v' hv
     cases hs
     exact jw0 r hv hx
   . split at hs
     . rename_i hp
       obtain rfl := U4 hp hx
       exact qq5 r hs
     . cases hs
def pfo : Option Value -> Bool
 | none => true
 | some v => pfv v
theorem zu5 {x x' : Option Value} (hp : pfo x = true) (hx : OptR φ x x') : x' = x := by
 cases hx with
 | none => rfl
 | some h => rw [U4 hp h]
def aSl (P : Program) (T : TypeId) (x : Value) (lo hi mx : Option Value) (h : AH) : Option Value := match aSlice P T x lo hi mx h with
 | some v => some v
 | none => if pfv x && pfo lo && pfo hi && pfo mx then aPure P (Instr.sliceAt T x lo hi mx) else none
theorem sim_sl (r : R w0 φ h w) {T : TypeId} {x v x' : Value} {lo hi mx lo' hi' mx' : Option Value} (hs : aSl P T x lo hi mx h = some v) (hx : VR φ x x') (hlo : OptR φ lo lo') (hhi : OptR φ hi hi') (hmx : OptR φ mx mx') :
   SimV w0 P φ h w (Instr.sliceAt T x' lo' hi' mx') v h := by
 unfold aSl at hs
 split at hs
 . rename_i v' hv
   cases hs
   exact jq8 r hv hx hlo hhi hmx
 . split at hs
   . rename_i hp
     simp only [Bool.and_eq_true] at hp
     obtain rfl := U4 hp.1.1.1 hx
     obtain rfl := zu5 hp.1.1.2 hlo
     obtain rfl := zu5 hp.1.2 hhi
     obtain rfl := zu5 hp.2 hmx
     exact qq5 r hs
   . cases hs
def aUn (P : Program) (op : UnOp) (x : Value) : Option Value := if pfv x then aPure P (Op.unary op x) else none
theorem sim_un (r : R w0 φ h w) {op : UnOp} {x x' v : Value} (hs : aUn P op x = some v) (hx : VR φ x x') : SimV w0 P φ h w (Op.unary op x') v h := by
 unfold aUn at hs
 split at hs
 . rename_i hp
   obtain rfl := U4 hp hx
   exact qq5 r hs
 . cases hs
def nilOk : Value -> Bool
 | .pointer (some _) | .iface _ _ | .func (.func _) _ _ => true
 | _ => false
def aBuiltin (P : Program) (b : Builtin) (Ts : List TypeId) (vs : List Value) (h : AH) : Outs := match b, Ts, vs with
 | .len, [T], [x] => ov (aLen P T x h) h
 | .cap, [T], [x] => ov (aCap P T x) h
 | .append, [T, U], [s, x] => ovh (aAppend P T U s x h)
 | .copy, [T, _], [d, x] => ovh (aCopy P T d x h)
 | .delete, [T, _], [m, k] => oun (aDelete P T m k h)
 | .clear, [T], [x] => oun (aClear P T x h)
 | .max, _, l => if l.all pfv then ov (aPure P (Builtin.max_ #[] 0 ⟨l⟩)) h else none
 | .min, _, l => if l.all pfv then ov (aPure P (Builtin.min_ #[] 0 ⟨l⟩)) h else none
 | .unsafeSliceData, _, [x] => ov (aSData x) h
 | .unsafeString, [pt, _], [x, n] => ovh (aUStr P pt x n h)
 | _, _, _ => none
theorem yg6 {l l' : List Value} (hl : LR φ l l') (hp : l.all pfv = true) : l' = l := by
 induction hl with
 | nil => rfl
 | cons hv _ ih =>
  simp only [List.all_cons, Bool.and_eq_true] at hp
  rw [U4 hp.1 hv, ih hp.2]
theorem LR.one_inv {v : Value} {l : List Value} (hl : LR φ [v] l) : ∃ v', l = [v'] /\ VR φ v v' := by
 cases hl with | cons h t => cases t; exact ⟨_, rfl, h⟩
theorem LR.two_inv {v u : Value} {l : List Value} (hl : LR φ [v, u] l) : ∃ v' u', l = [v', u'] /\ VR φ v v' /\ VR φ u u' := by
 cases hl with | cons h t => cases t with | cons k t => cases t; exact ⟨_, _, rfl, h, k⟩
theorem yu2 (r : R w0 φ h w) {b : Builtin} {Ts : List TypeId} {vs vs' : List Value} {ty : TypeId} {cs : Array Bool} {l : List (AN × AH)} (hs : aBuiltin P b Ts vs h = some l) (hv : LR φ vs vs') :
   Sim w0 P φ h w (builtin b ⟨Ts⟩ ty cs ⟨vs'⟩) l := by
 unfold aBuiltin at hs
 split at hs
 . obtain ⟨v', rfl, hx⟩ := hv.one_inv
   exact .ov hs (fun v hv => xu9 r hv hx)
 . obtain ⟨v', rfl, hx⟩ := hv.one_inv
   exact .ov hs (fun v hv => xv0 r hv hx)
 . obtain ⟨v', u', rfl, hx, hy⟩ := hv.two_inv
   exact .ovh hs (fun v h' hv => xz6 r hv hx hy)
 . obtain ⟨v', u', rfl, hx, hy⟩ := hv.two_inv
   exact .ovh hs (fun v h' hv => jw3 r hv hx hy)
 . obtain ⟨v', u', rfl, hx, hy⟩ := hv.two_inv
   exact .oun hs (fun h' hv => xz4 r hv hx hy)
 . obtain ⟨v', rfl, hx⟩ := hv.one_inv
   exact .oun hs (fun h' hv => jz4 r hv hx)
 . split at hs
   . obtain rfl := yg6 hv ‹_›
     exact .ov hs (fun v hv => qq5 r hv)
   . cases hs
 . split at hs
   . obtain rfl := yg6 hv ‹_›
     exact .ov hs (fun v hv => qq5 r hv)
   . cases hs
 . obtain ⟨v', rfl, hx⟩ := hv.one_inv
   exact .ov hs (fun v hv => jq9 r hv hx)
 . obtain ⟨v', u', rfl, hx, hy⟩ := hv.two_inv
   exact .ovh hs (fun v h' hv => jk9 r hv hx hy)
 . cases hs
end
end Go.X
namespace Go.X
noncomputable section
open Go Go.RowKit
variable {w0 w w' : World} {φ φ' : Phi} {h h' : AH} {P : Program} {n : Nat} {t : T Value}
inductive Mk where
 | ptr
 | sl (l c : Nat)
 | mp
def Mk.val : Mk -> Nat -> Value
 | .ptr, b => .pointer (some ⟨b, 0, none⟩)
 | .sl l c, b => .slice (some ⟨b, 0, none⟩) l c
 | .mp, b => .map (some b)
inductive Al where
 | cells (l : List Value)
 | map
 | tcells (ty : TypeId) (l : List Value)
def Al.obj : Al -> AObj
 | .cells l => .cells (T.fill l 0 .e) l.length 0 false
 | .map => .map [] 0 false
 | .tcells ty l => .tcells ty (T.fill l 0 .e) l.length 0
def Al.im (c : Nat) : Al -> Im
 | .cells l => ⟨c, 0, l.length, l.length, 0⟩
 | .map => ⟨c, 0, 0, 0, 0⟩
 | .tcells _ l => ⟨c, 0, l.length, l.length, 0⟩
def Al.ok : Al -> Mk -> Bool
 | .cells _, .ptr => true
 | .cells _, .sl _ c => decide (c < u7)
 | .map, .mp => true
 | .tcells _ _, .ptr => true
 | _, _ => false
def isBld (P : Program) (el : TypeId) : Bool := match P.underlying el with
 | some (.struct fs) => (match fs.toList with
  | [a, _] => a.name == "addr"
  | _ => false)
 | _ => false
def isMapT (P : Program) (T : TypeId) : Bool := match P.underlying T with | some (.map _ _) => true | _ => false
def aAl0 (P : Program) (n : Nat) (t : T Value) : Op -> Option (Al × Mk)
 | .alloc el => match zeroOf P el with
  | some z => (match isBld P el with
   | true => some (.tcells el (cellsL z), .ptr)
   | false => some (.cells (cellsL z), .ptr))
  | none => none
 | .box _ x => match aO n t x with | some v => some (.cells (cellsL v), .ptr) | none => none
 | .buildSlice T len ⟨ps⟩ => match P.underlying T, aPs n t ps with
  | some (.slice el), some parts => (match szOf P el, zeroOf P el with
   | some k, some z => if len * k ≤ 16777216 /\ (cellsL z).length = k then (match aFill (fun i => some (i * k, k)) (zrep len (cellsL z)) parts with
    | some l => some (.cells l, .sl len len)
    | none => none) else none
   | _, _ => none)
  | _, _ => none
 | .makeSlice T l c => match aO n t l, aO n t c with
  | some (.int _ l), some (.int _ c) => (match P.underlying T with
   | some (.slice el) => (match szOf P el, byOf P el, zeroOf P el with
    | some k, some by_, some z => if 0 ≤ l /\ l ≤ c /\ c * (by_ + 1) < 1099511627776 /\ (cellsL z).length = k then some (.cells (zrep c.toNat (cellsL z)), .sl l.toNat c.toNat) else none
    | _, _, _ => none)
   | _ => none)
  | _, _ => none
 | .makeMap T r => match r with
  | none => some (.map, .mp)
  | some x => (match aO n t x with
   | some (.int _ _) => if isMapT P T then some (.map, .mp) else none
   | _ => none)
 | _ => none
def aAl (P : Program) (n : Nat) (t : T Value) (o : Op) : Option (Al × Mk) := match aAl0 P n t o with
 | some (al, mk) => if al.ok mk then some (al, mk) else none
 | none => none
def AlR (φ : Phi) : Al -> Obj -> Prop
 | .cells l, x => ∃ l' el, x = .cells ⟨l'⟩ el (0, 0) /\ LR φ l l'
 | .map, x => x = .map #[] 0
 | .tcells ty l, x => ∃ l', x = .cells ⟨l'⟩ ty (0, 0) /\ LR φ l l'
theorem AlR.or {al : Al} {x : Obj} {c : Nat} {mk : Mk} (hk : al.ok mk = true) (ha : AlR φ al x) (le : Le φ φ') (hw : w.heap[c]? = some x) : OR φ' (al.im c) w al.obj := by
 cases al with
 | cells l =>
  obtain ⟨l', el, rfl, hl⟩ := ha
  have hle : T.Ok (l.length) := trivial
  refine ⟨rfl, rfl, hle, ⟨l'⟩, el, ⟨(0, 0), hw, fun _ => rfl, fun k _ => by simp [World.frozen?, Al.im, hw]⟩, by simp [Al.im, hl.length], by simp [Al.im], fun k hk => ?_⟩
  obtain ⟨v', h1, h2⟩ := hl.get (List.getElem?_eq_getElem hk)
  refine ⟨l[k], v', ?_, by simpa [Al.im] using h1, h2.mono le⟩
  rw [T.get_fill, if_pos (by omega)]
  simp [hk]
 | map => exact ⟨#[], by rw [show x = .map #[] 0 from ha] at hw; exact hw, .nil⟩
 | tcells ty l =>
  obtain ⟨l', rfl, hl⟩ := ha
  refine ⟨rfl, rfl, rfl, ⟨l'⟩, hw, by simp [Al.im, hl.length], ⟨Nat.le_refl _, fun _ => rfl⟩, fun k hk => ?_⟩
  obtain ⟨v', h1, h2⟩ := hl.get (List.getElem?_eq_getElem hk)
  refine ⟨l[k], v', ?_, by simpa using h1, h2.mono le⟩
  rw [T.get_fill, if_pos (by omega)]
  simp [hk]
theorem Mk.rel {al : Al} {mk : Mk} {b c : Nat} (hk : al.ok mk = true) (hb : φ b = some (al.im c)) : VR φ (mk.val b) (mk.val c) := by
 cases al with
 | cells l => cases mk with
  | ptr => exact .ptr (a := ⟨b, 0, none⟩) _ hb rfl
  | sl l0 c0 =>
   simp only [Al.ok, decide_eq_true_eq] at hk
   exact .slice (a := ⟨b, 0, none⟩) _ hb rfl (by omega)
  | mp => simp [Al.ok] at hk
 | map => cases mk with
  | mp => exact .map _ hb
  | _ => simp [Al.ok] at hk
 | tcells ty l => cases mk with
  | ptr => exact .ptr (a := ⟨b, 0, none⟩) _ hb rfl
  | _ => simp [Al.ok] at hk
theorem Qu3 {a : Act} (f : FR φ n t a.tmps) {o : Oper} {al : Al} {mk : Mk} (hs : aAl0 P n t o.op = some (al, mk)) :
  ∃ x, AlR φ al x /\ ∀ w : World, (execOp a.eval o).run P w = .ok (.value (mk.val w.heap.size)) (w.alloc x) := by
 cases hop : o.op with
 | alloc el =>
  rw [hop] at hs
  simp only [aAl0] at hs
  split at hs
  . rename_i z hz
    have hz2 := (rZero hz default).2
    have hrun : ∀ w : World, (execOp a.eval o).run P w = .ok (.value (Mk.ptr.val w.heap.size)) (w.alloc (.cells ⟨cellsL z⟩ el (0, 0))) := by
      intro w
      have hz1 := (rZero hz w).1
      simp only [execOp, hop, Instr.alloc, Sem.run_bind, hz1, Result.andThen_ok, newVar, newRow, run_newObj_alloc, Sem.run_pure, F7, Mk.val]
    split at hs
    . cases hs
      exact ⟨.cells ⟨cellsL z⟩ el (0, 0), ⟨_, rfl, (Z9 φ hz2).cells⟩, hrun⟩
    . cases hs
      exact ⟨.cells ⟨cellsL z⟩ el (0, 0), ⟨_, _, rfl, (Z9 φ hz2).cells⟩, hrun⟩
  . cases hs
 | box el x =>
  rw [hop] at hs
  simp only [aAl0] at hs
  split at hs
  . rename_i v hv
    cases hs
    refine ⟨.cells ⟨cellsL (a.eval x)⟩ el (0, 0), ⟨_, _, rfl, (Z5 f hv).cells⟩, fun w => ?_⟩
    simp only [execOp, hop, Instr.box, newVar, newRow, Sem.run_bind, run_newObj_alloc, Result.andThen_ok, Sem.run_pure, F7, Mk.val]
  . cases hs
 | buildSlice T len parts =>
  obtain ⟨ps⟩ := parts
  rw [hop] at hs
  simp only [aAl0] at hs
  split at hs
  . rename_i el parts hu hps
    split at hs
    . rename_i k z hk hz
      split at hs
      . rename_i hc
        split at hs
        . rename_i l hl
          cases hs
          have hz2 := (rZero hz default).2
          have hpr := xj5 f hps
          obtain ⟨out', h1, h2⟩ := yy1 parts _ hl (qj6 (Z9 φ hz2).cells len) hpr.two
          refine ⟨.cells ⟨out'⟩ el (0, 0), ⟨_, _, rfl, h2⟩, fun w => ?_⟩
          have hz1 := (rZero hz w).1
          have hmap : ((⟨ps⟩ : Array (Nat × Operand)).map fun (i, x) => (i, a.eval x)) = ⟨ps.map fun p => (p.1, a.eval p.2)⟩ := by
           apply Array.ext'; simp
          simp only [execOp, hop, hmap]
          have hrun : (Instr.buildSlice T len ⟨ps.map fun p => (p.1, a.eval p.2)⟩).run P w = .ok (.slice (some ⟨w.heap.size, 0, none⟩) len len) (w.alloc (.cells ⟨out'⟩ el (0, 0))) := by
           unfold Instr.buildSlice
           simp only [Sem.run_bind, run_underlying hu, Result.andThen_ok, rSz hk]
           rw [if_neg (by omega)]
           by_cases hn : len * k = 0
           . have ez : zrep len (cellsL z) = [] := List.eq_nil_of_length_eq_zero (by rw [qq4, hc.2]; exact hn)
             have er : (Array.range (len * k)).map (fun i => (#[] : Array Value)[i % (#[] : Array Value).size]!) = ⟨[]⟩ := by
              rw [hn]
              have : Array.range 0 = (#[] : Array Nat) := Array.eq_empty_of_size_eq_zero (by simp)
              rw [this]; simp
             rw [ez] at h1
             rw [if_pos hn]
             simp only [Sem.run_pure, Sem.run_bind, Result.andThen_ok, er, h1, newRow, run_newObj_alloc]
           . rw [if_neg hn]
             simp only [Sem.run_pure, Sem.run_bind, Result.andThen_ok, hz1]
             rw [zarr (by rw [hc.2]), h1]
             simp only [Sem.run_pure, Sem.run_bind, Result.andThen_ok, newRow, run_newObj_alloc]
          rw [Sem.run_bind, hrun]; rfl
        . cases hs
      . cases hs
    . cases hs
  . cases hs
 | makeSlice T lx cx =>
  rw [hop] at hs
  simp only [aAl0] at hs
  split at hs
  . rename_i k1 l k2 c hl hc
    have el := (Z5 f hl).int_inv
    have ec := (Z5 f hc).int_inv
    split at hs
    . rename_i el' hu
      split at hs
      . rename_i k by_ z hk hb hz
        split at hs
        . rename_i hcond
          cases hs
          obtain ⟨h1, h2, h3, h4⟩ := hcond
          have hz2 := (rZero hz default).2
          obtain ⟨i, hi, hisz⟩ := rI' hk
          have hib : i.bytes = by_ := by unfold byOf at hb; rw [hi] at hb; simpa using hb
          have hcc : c < 1099511627776 := by
           have : c * 1 ≤ c * (by_ + 1 : Int) := Int.mul_le_mul_of_nonneg_left (by omega) (by omega)
           omega
          have hcb : (by_ : Int) * c ≤ 281474976710656 := by
           have : c * (by_ + 1 : Int) = by_ * c + c := by rw [Int.mul_add, Int.mul_comm, Int.mul_one]
           omega
          have hroom : ¬ (140737488355328 < c.toNat * by_) := by
           have e : ((c.toNat * by_ : Nat) : Int) = c * by_ := by push_cast; rw [Int.toNat_of_nonneg (by omega)]
           have : c * (by_ + 1 : Int) = c * by_ + c := by rw [Int.mul_add, Int.mul_one]
           omega
          refine ⟨.cells ⟨zrep c.toNat (cellsL z)⟩ el' (0, 0), ⟨_, _, rfl, qj6 (Z9 φ hz2).cells _⟩, fun w => ?_⟩
          have hz1 := (rZero hz w).1
          have hrun : (Instr.makeSlice T (.int k1 l) (.int k2 c)).run P w = .ok (.slice (some ⟨w.heap.size, 0, none⟩) l.toNat c.toNat) (w.alloc (.cells ⟨zrep c.toNat (cellsL z)⟩ el' (0, 0))) := by
           unfold Instr.makeSlice
           simp only [Sem.run_bind, run_underlying hu, Result.andThen_ok, asInt, asIntOf, Sem.run_pure, rI hi, wrap64 (show 0 ≤ c by omega) hcc, wrap64 h1 (show l < 1099511627776 by omega)]
           have t1 : (decide (c < 0) || decide ((i.bytes : Int) * c > 2 ^ 48)) = false := by
             rw [hib]; simp only [Bool.or_eq_false_iff, decide_eq_false_iff_not]; omega
           simp only [t1, Bool.false_or]
           rw [if_neg (by simp; omega)]
           simp only [askRoom, roomBytes, hib]
           rw [if_neg (by omega)]
           simp only [Sem.run_pure, Sem.run_bind, Result.andThen_ok, rSz hk]
           by_cases hn : c.toNat * k = 0
           . have ez : zrep c.toNat (cellsL z) = [] := List.eq_nil_of_length_eq_zero (by rw [qq4, h4]; exact hn)
             rw [if_pos hn]
             have er : Array.range 0 = (#[] : Array Nat) := Array.eq_empty_of_size_eq_zero (by simp)
             simp [newRow, ez, hn, er]
           . rw [if_neg hn]
             simp only [Sem.run_bind, hz1, Sem.run_pure, Result.andThen_ok, newRow, run_newObj_alloc]
             rw [zarr (by rw [h4])]
          simp only [execOp, hop, el, ec]
          rw [Sem.run_bind, hrun]; rfl
        . cases hs
      . cases hs
    . cases hs
  . cases hs
 | makeMap T rr =>
  rw [hop] at hs
  simp only [aAl0] at hs
  cases rr with
  | none =>
    cases hs
    refine ⟨.map #[] 0, rfl, fun w => ?_⟩
    simp [execOp, hop, Instr.makeMap, Mk.val]
  | some x =>
    dsimp only at hs
    split at hs
    . rename_i kk q hx
      split at hs
      . rename_i hm
        cases hs
        have ex := (Z5 f hx).int_inv
        unfold isMapT at hm
        split at hm
        . rename_i k el hu
          refine ⟨.map #[] 0, rfl, fun w => ?_⟩
          simp [execOp, hop, Instr.makeMap, Mk.val, ex, run_underlying hu, asInt, asIntOf]
        . cases hm
      . cases hs
    . cases hs
 | _ => rw [hop] at hs; simp [aAl0] at hs
theorem uv8 {a : Act} (f : FR φ n t a.tmps) {o : Oper} {al : Al} {mk : Mk} (hs : aAl P n t o.op = some (al, mk)) :
   al.ok mk = true /\ ∃ x, AlR φ al x /\ ∀ w : World, (execOp a.eval o).run P w = .ok (.value (mk.val w.heap.size)) (w.alloc x) := by
 unfold aAl at hs
 split at hs
 . rename_i al0 mk0 h0
   split at hs
   . rename_i hk; cases hs; exact ⟨hk, Qu3 f h0⟩
   . cases hs
 . cases hs
def AH.newAl (h : AH) (al : Al) : Option (Nat × AH) := if true = true then some (h.next, ⟨h.m.set h.next (some al.obj), h.next + 1⟩) else none
def aNew (x : Option (Al × Mk)) (h : AH) : Outs := match x with
 | some (al, mk) => (match h.newAl al with
  | some (b, h') => some [(.val (mk.val b), h')]
  | none => none)
 | none => none
end
end Go.X
namespace Go.X
noncomputable section
open Go Go.RowKit
variable {w0 w w' : World} {φ φ' : Phi} {h h' : AH} {P : Program}
theorem R.grown (r : R w0 φ h w) (b : Below w.heap.size w w') : R w0 φ h w' := by
 have e : ∀ {k i}, φ k = some i -> w'.heap[i.c]? = w.heap[i.c]? := fun hk => b.block _ (r.lt _ _ hk).1
 have hs : w.heap.size ≤ w'.heap.size := b.size
 have hb := r.below
 refine ⟨fun k i o hi ho => (r.dom k i o hi ho).world (e hi), r.low, r.inj, fun k i hi => ⟨Nat.lt_of_lt_of_le (r.lt k i hi).1 hs, (r.lt k i hi).2⟩, r.nx, ?_⟩
 exact hb.trans (b.mono hb.size)
def aS2B (_ : Program) (_ _ : TypeId) (_ : Value) (_ : AH) : Outs := none
theorem ug6 (_ : R w0 φ h w) {s d : TypeId} {x x' : Value} {l : List (AN × AH)} (hs : aS2B P s d x h = some l) (_ : VR φ x x') : Sim w0 P φ h w (do pure (.value (<- convert s d x'))) l := (Option.some_ne_none _ hs.symm).elim
end
end Go.X
namespace Go.X
noncomputable section
open Go Go.RowKit
variable {w0 w w' : World} {φ φ' : Phi} {h h' : AH} {P : Program}
def sameBs : List UInt8 -> List UInt8 -> Bool
 | [], [] => true
 | a :: l, b :: m => Nat.beq a.toNat b.toNat && sameBs l m
 | _, _ => false
theorem zq7 : ∀ {l m : List UInt8}, sameBs l m = true -> l = m
 | [], [], _ => rfl
 | a :: l, b :: m, h => by
  unfold sameBs at h
  rw [Bool.and_eq_true] at h
  rw [UInt8.toNat_inj.1 (Nat.eq_of_beq_eq_true h.1), zq7 h.2]
 | [], _ :: _, h => by cases h
 | _ :: _, [], h => by cases h
theorem zy3 : ∀ (l : List UInt8), sameBs l l = true
 | [] => rfl
 | a :: l => by unfold sameBs; rw [Nat.beq_refl, zy3 l]; rfl
def sameB (a b : ByteArray) : Bool := sameBs a.data.toList b.data.toList
theorem jz9 {a b : ByteArray} : sameB a b = true ↔ a = b := by
 constructor
 . intro h
   have := zq7 h
   obtain ⟨⟨a⟩⟩ := a
   obtain ⟨⟨b⟩⟩ := b
   have : a = b := this
   rw [this]
 . intro h
   subst h
   exact zy3 _
abbrev pOf (e : Value × Value × Nat) : Value × Value := (e.1, e.2.1)
abbrev qOf (e : ByteArray × Value) : Value × Value := (Value.string e.1, e.2)
def aLookupB (_ : Program) (_ : TypeId) (_ _ : Value) (_ : Bool) (_ : AH) : Option Value := none
theorem yj8 (_ : R w0 φ h w) {T : TypeId} {x k x' k' v : Value} {c : Bool} (hs : aLookupB P T x k c h = some v) (_ : VR φ x x') (_ : VR φ k k') : SimV w0 P φ h w (Instr.lookup T x' k' c) v h := (Option.some_ne_none _ hs.symm).elim
def bagPut1 (k : ByteArray) (v : Value) (e : ByteArray × Value) : ByteArray × Value := match sameB e.1 k with
 | true => (k, v)
 | false => e
def aUpdateB (_ : Program) (_ : TypeId) (_ _ _ : Value) (_ : AH) : Option AH := none
theorem yj6 (_ : R w0 φ h w) {T : TypeId} {x k v x' k' v' : Value} (hs : aUpdateB P T x k v h = some h') (_ : VR φ x x') (_ : VR φ k k') (_ : VR φ v v') :
 ∃ w', (Instr.mapUpdate T x' k' v').run P w = .ok () w' /\ Nx φ φ h h' /\ R w0 φ h' w' := (Option.some_ne_none _ hs.symm).elim
def leBs : List UInt8 -> List UInt8 -> Bool
 | [], _ => true
 | _ :: _, [] => false
 | a :: l, b :: m => Nat.blt a.toNat b.toNat || (Nat.beq a.toNat b.toNat && leBs l m)
def insB (x : ByteArray × Value) : List (ByteArray × Value) -> List (ByteArray × Value)
 | [] => [x]
 | y :: l => match leBs x.1.data.toList y.1.data.toList with
  | true => x :: y :: l
  | false => y :: insB x l
theorem zg4 (x : ByteArray × Value) : ∀ l, (insB x l).Perm (x :: l)
 | [] => .refl _
 | y :: l => by
  unfold insB
  split
  . exact .refl _
  . exact ((zg4 x l).cons y).trans (.swap x y l)
def bagOf : List (Value × Value × Nat) -> Option (List (ByteArray × Value))
 | [] => some []
 | (.string a, v, _) :: l => (match bagOf l with
  | some m => some (insB (a, v) m)
  | none => none)
 | _ :: _ => none
theorem zk1 : ∀ {es : List (Value × Value × Nat)} {m : List (ByteArray × Value)}, bagOf es = some m -> (es.map pOf).Perm (m.map qOf)
 | [], m, h => by cases h; exact .refl _
 | (k, v, b) :: l, m, h => by
  unfold bagOf at h
  split at h
  . rename_i heq; cases heq
  . rename_i a v' b' l' heq
    cases heq
    split at h
    . rename_i m' hm
      cases h
      exact ((zk1 hm).cons (Value.string a, v)).trans ((zg4 (a, v) m').symm.map qOf)
    . cases h
  . cases h
end
end Go.X
namespace Go.X
noncomputable section
open Go Go.RowKit
variable {w0 w w' : World} {φ φ' : Phi} {h h' : AH} {P : Program} {n : Nat} {t : T Value}
def aEntryIt (it : Value) (h : AH) : Option Value := match it with
 | .pointer (some ⟨b, 0, none⟩) => (match h.m.get b with
  | some (.iter (some bm) _ seen st) => (match h.m.get bm, seen.getLast? with
   | some (.map es cl _), some q => if cl = st then (match es.find? (fun e => e.2.2 == q) with
    | some e => some (.tuple #[e.1, e.2.1])
    | none => none) else none
   | _, _ => none)
  | _ => none)
 | _ => none
theorem ER.find {es : List (Value × Value × Nat)} {l : List MapEntry} (he : ER φ es l) (q : Nat) {e : Value × Value × Nat} (hf : es.find? (fun e => e.2.2 == q) = some e) :
  ∃ e', l.find? (fun e => e.born == q) = some e' /\ VR φ e.1 e'.key /\ VR φ e.2.1 e'.val := by
 induction he with
 | nil => simp at hf
 | @cons k v k' v' b l l' hk hv _ ih =>
  simp only [List.find?_cons] at hf ⊢
  cases hb : (b == q) with
  | true => rw [hb] at hf; simp at hf; subst hf; exact ⟨_, rfl, hk, hv⟩
  | false => rw [hb] at hf; simpa using ih hf
theorem yu1 (r : R w0 φ h w) {it it' v : Value} (hs : aEntryIt it h = some v) (hit : VR φ it it') : SimV w0 P φ h w (Instr.entry it') v h := by
 unfold aEntryIt at hs
 split at hs
 . rename_i b
   obtain ⟨i, hi, _, rfl⟩ := hit.ptr_inv
   have hi : φ b = some i := hi
   split at hs
   . rename_i bm since seen st ho
     obtain ⟨hd, m', hw, hm⟩ := r.dom _ _ _ hi ho
     obtain ⟨im, him, e⟩ := hm.map_inv
     cases e
     have hget : (getObj i.c).run P w = .ok (.mapIter (some im.c) since ⟨seen⟩ st) w := by simp [getObj, Sem.run, hw]
     rw [hd]
     split at hs
     . rename_i es cl ro q hom hq
       obtain ⟨arr, h1, _, h2⟩ := r.map (P := P) him hom
       split at hs
       . rename_i hcl
         split at hs
         . rename_i e hf
           cases hs
           obtain ⟨e', h3, h4, h5⟩ := h2.find q hf
           have h3' : arr.find? (fun e => e.born == q) = some e' := by rw [<- Array.find?_toList]; exact h3
           have hq' : (⟨seen⟩ : Array Nat).back? = some q := by rw [<- Array.getLast?_toList]; exact hq
           refine .here r (v' := .tuple #[e'.key, e'.val]) ?_ (.tuple' (.cons h4 (.cons h5 .nil)))
           subst hcl
           simp [Instr.entry, hget, hq', h1, h3']
         . cases hs
       . cases hs
     . cases hs
   . cases hs
 . cases hs
def aLookupX (P : Program) (T : TypeId) (x k : Value) (c : Bool) (h : AH) : Option Value := match aLookup P T x k c h with
 | some v => some v
 | none => aLookupB P T x k c h
theorem yj7 (r : R w0 φ h w) {T : TypeId} {x k x' k' v : Value} {c : Bool} (hs : aLookupX P T x k c h = some v) (hx : VR φ x x') (hk : VR φ k k') : SimV w0 P φ h w (Instr.lookup T x' k' c) v h := by
 unfold aLookupX at hs
 split at hs
 . rename_i v hv
   cases hs
   exact xz0 r hv hx hk
 . exact yj8 r hs hx hk
def aUpdateX (P : Program) (T : TypeId) (x k v : Value) (h : AH) : Option AH := match aUpdate P T x k v h with
 | some h => some h
 | none => aUpdateB P T x k v h
theorem yj5 (r : R w0 φ h w) {T : TypeId} {x k v x' k' v' : Value} (hs : aUpdateX P T x k v h = some h') (hx : VR φ x x') (hk : VR φ k k') (hv : VR φ v v') :
   ∃ w', (Instr.mapUpdate T x' k' v').run P w = .ok () w' /\ Nx φ φ h h' /\ R w0 φ h' w' := by
 unfold aUpdateX at hs
 split at hs
 . rename_i h2 hh
   cases hs
   exact zu1 r hh hx hk hv
 . exact yj6 r hs hx hk hv
def aVal0 (P : Program) (n : Nat) (t : T Value) (h : AH) : Op -> Option Value
 | .move x => aO n t x
 | .assign x => aO n t x
 | .pick c a b => match aO n t c with
  | some (.bool q) => aO n t (if q then a else b)
  | _ => none
 | .build T ⟨ps⟩ => match aPs n t ps with | some l => aBuild P T l | none => none
 | .load T x => match aO n t x with | some (.pointer (some a)) => aLoad P T a h | _ => none
 | .nilCheck x => match aO n t x with | some v => if nilOk v then some v else none | none => none
 | .binOp op T x y _ => match aO n t x, aO n t y with | some a, some b => aBin P op T x y a b h | _, _ => none
 | .unOp op _ x => match aO n t x with | some v => aUn P op v | none => none
 | .convert s d x => match aO n t x with | some v => aConv P s d v h | none => none
 | .makeInterface T x => match aO n t x with | some v => aMkI P T v | none => none
 | .makeFunc (.func f) ⟨l⟩ ⟨m⟩ => match aOs n t l, aOs n t m with | some a, some b => some (.func (.func f) ⟨a⟩ ⟨b⟩) | _, _ => none
 | .slice T x lo hi mx => match aO n t x, aOO n t lo, aOO n t hi, aOO n t mx with | some v, some a, some b, some c => aSl P T v a b c h | _, _, _, _ => none
 | .fieldAddr s x f => match aO n t x with | some (.pointer (some a)) => aField P s a f | _ => none
 | .field T x f => match aO n t x with | some v => aFieldV P T v f | none => none
 | .indexAddr T x i => match aO n t x, aO n t i with | some v, some j => aIndex P T v j | _, _ => none
 | .index T x i => match aO n t x, aO n t i with | some v, some j => aIndexV P T v j | _, _ => none
 | .lookup T x k c => match aO n t x, aO n t k with | some v, some j => aLookupX P T v j c h | _, _ => none
 | .typeAssert x _ T c => match aO n t x with | some v => aAssert P v T c | none => none
 | .extract x i => match aO n t x with | some v => aExtract v i | none => none
 | .entry it => match aO n t it with | some v => aEntryIt v h | none => none
 | .call ⟨.builtin .len, ⟨[x]⟩, ⟨[T]⟩⟩ => match aO n t x with | some v => aLen P T v h | none => none
 | .call ⟨.builtin .cap, ⟨[x]⟩, ⟨[T]⟩⟩ => match aO n t x with | some v => aCap P T v | none => none
 | _ => none
theorem amap {α β : Type} (f : α -> β) (l : List α) : Array.map f ⟨l⟩ = ⟨l.map f⟩ := by apply Array.ext'; simp
theorem qx4 {ρ : Operand -> Value} {o : Oper} {b : Builtin} {args : List Operand} {Ts : Array TypeId} (hop : o.op = .call ⟨.builtin b, ⟨args⟩, Ts⟩) :
  ∃ cs, execOp ρ o = builtin b Ts o.type cs ⟨args.map ρ⟩ := by
 refine ⟨Array.map (fun x : Operand => match x with | Operand.const _ => true | _ => false) ⟨args⟩, ?_⟩
 simp only [execOp, hop, resolve]
 rw [amap ρ args]
 rfl
theorem simN0 (r : R w0 φ h w) {a : Act} (f : FR φ n t a.tmps) {o : Oper} {v : Value} (hs : aVal0 P n t h o.op = some v) :
  ∃ nx w' φ', (execOp a.eval o).run P w = .ok nx w' /\ Nx φ φ' h h /\ R w0 φ' h w' /\ NR φ' (.val v) nx := by
 have fin : ∀ {s : Sem Value}, SimV w0 P φ h w s v h -> execOp a.eval o = (do pure (.value (<- s))) -> ∃ nx w' φ', (execOp a.eval o).run P w = .ok nx w' /\ Nx φ φ' h h /\ R w0 φ' h w' /\ NR φ' (.val v) nx := by
  intro s hsv he
  obtain ⟨v', w', φ', h1, h2, h3, h4⟩ := hsv
  exact ⟨.value v', w', φ', by rw [he, Sem.run_bind, h1]; rfl, h2, h3, .val h4⟩
 cases hop : o.op with
 | move x =>
  rw [hop] at hs; simp only [aVal0] at hs
  exact fin (s := pure (a.eval x)) (.pure r (Z5 f hs)) (by simp only [execOp, hop]; rfl)
 | assign x =>
  rw [hop] at hs; simp only [aVal0] at hs
  exact fin (s := pure (a.eval x)) (.pure r (Z5 f hs)) (by simp only [execOp, hop]; rfl)
 | pick c x y =>
  rw [hop] at hs; simp only [aVal0] at hs
  split at hs
  . rename_i q hq
    have hc := (Z5 f hq).bool_inv
    refine fin (s := pure (if q then a.eval x else a.eval y)) (.pure r ?_) ?_
    . have := Z5 f hs
      cases q <;> exact this
    . simp only [execOp, hop, hc, asBool]; rfl
  . cases hs
 | build T parts =>
  obtain ⟨ps⟩ := parts
  rw [hop] at hs; simp only [aVal0] at hs
  split at hs
  . rename_i l hl
    have hmap : ((⟨ps⟩ : Array (Nat × Operand)).map fun (i, x) => (i, a.eval x)) = ⟨ps.map fun p => (p.1, a.eval p.2)⟩ := by
      apply Array.ext'; simp
    exact fin (jz5 r hs (xj5 f hl)) (by simp only [execOp, hop, hmap])
  . cases hs
 | load T x =>
  rw [hop] at hs; simp only [aVal0] at hs
  split at hs
  . rename_i ad hx
    exact fin (jw2 r hs (Z5 f hx)) (by simp only [execOp, hop])
  . cases hs
 | nilCheck x =>
  rw [hop] at hs; simp only [aVal0] at hs
  split at hs
  . rename_i v0 hv
    split at hs
    . rename_i hk
      cases hs
      have hv' := Z5 f hv
      refine fin (s := pure (a.eval x)) (.pure r hv') ?_
      simp only [execOp, hop]
      unfold nilOk at hk
      split at hk
      . obtain ⟨i, _, _, e⟩ := hv'.ptr_inv; rw [e]; rfl
      . generalize a.eval x = u at hv'; cases hv'; rfl
      . generalize a.eval x = u at hv'; cases hv' with
        | func hf => cases hf with | same hf => rfl
      . cases hk
    . cases hs
  . cases hs
 | binOp op T x y yT =>
  rw [hop] at hs; simp only [aVal0] at hs
  split at hs
  . rename_i va vb hx hy
    exact fin (ug8 r hs (Z5 f hx) (Z5 f hy)) (by simp only [execOp, hop])
  . cases hs
 | unOp op T x =>
  rw [hop] at hs; simp only [aVal0] at hs
  split at hs
  . rename_i va hx
    exact fin (sim_un r hs (Z5 f hx)) (by simp only [execOp, hop])
  . cases hs
 | convert s d x =>
  rw [hop] at hs; simp only [aVal0] at hs
  split at hs
  . rename_i va hx
    exact fin (jw4 r hs (Z5 f hx)) (by simp only [execOp, hop])
  . cases hs
 | makeInterface T x =>
  rw [hop] at hs; simp only [aVal0] at hs
  split at hs
  . rename_i va hx
    exact fin (ug7 r hs (Z5 f hx)) (by simp only [execOp, hop])
  . cases hs
 | makeFunc fn l m =>
  obtain ⟨l⟩ := l
  obtain ⟨m⟩ := m
  rw [hop] at hs
  cases fn with
  | func k =>
    simp only [aVal0] at hs
    split at hs
    . rename_i va vb hx hy
      cases hs
      refine fin (s := pure (.func (.func k) ⟨l.map a.eval⟩ ⟨m.map a.eval⟩)) (.pure r (.func' (.same (fun l e => by cases e)) (zz8 f hx) (zz8 f hy))) ?_
      simp only [execOp, hop, Instr.makeFunc]
      simp
    . cases hs
  | _ => simp [aVal0] at hs
 | slice T x lo hi mx =>
  rw [hop] at hs; simp only [aVal0] at hs
  split at hs
  . rename_i va x1 x2 x3 hx h1 h2 h3
    exact fin (sim_sl r hs (Z5 f hx) (xj7 f h1) (xj7 f h2) (xj7 f h3)) (by simp only [execOp, hop])
  . cases hs
 | fieldAddr s x k =>
  rw [hop] at hs; simp only [aVal0] at hs
  split at hs
  . rename_i ad hx
    exact fin (jz2 r hs (Z5 f hx)) (by simp only [execOp, hop])
  . cases hs
 | field T x k =>
  rw [hop] at hs; simp only [aVal0] at hs
  split at hs
  . rename_i va hx
    exact fin (xz2 r hs (Z5 f hx)) (by simp only [execOp, hop])
  . cases hs
 | indexAddr T x i =>
  rw [hop] at hs; simp only [aVal0] at hs
  split at hs
  . rename_i va vb hx hy
    exact fin (jz1 r hs (Z5 f hx) (Z5 f hy)) (by simp only [execOp, hop])
  . cases hs
 | index T x i =>
  rw [hop] at hs; simp only [aVal0] at hs
  split at hs
  . rename_i va vb hx hy
    exact fin (xz1 r hs (Z5 f hx) (Z5 f hy)) (by simp only [execOp, hop])
  . cases hs
 | lookup T x k c =>
  rw [hop] at hs; simp only [aVal0] at hs
  split at hs
  . rename_i va vb hx hy
    exact fin (yj7 r hs (Z5 f hx) (Z5 f hy)) (by simp only [execOp, hop])
  . cases hs
 | typeAssert x xT T c =>
  rw [hop] at hs; simp only [aVal0] at hs
  split at hs
  . rename_i va hx
    exact fin (xz5 (xT := xT) r hs (Z5 f hx)) (by simp only [execOp, hop])
  . cases hs
 | extract x i =>
  rw [hop] at hs; simp only [aVal0] at hs
  split at hs
  . rename_i va hx
    exact fin (yu0 r hs (Z5 f hx)) (by simp only [execOp, hop])
  . cases hs
 | entry it =>
  rw [hop] at hs; simp only [aVal0] at hs
  split at hs
  . rename_i va hx
    exact fin (yu1 r hs (Z5 f hx)) (by simp only [execOp, hop])
  . cases hs
 | call c =>
  rw [hop] at hs
  unfold aVal0 at hs
  split at hs
  all_goals first | (rename_i e; cases e; done) | skip
  . rename_i x T e
    cases e
    split at hs
    . rename_i va hx
      refine fin (s := Builtin.len_ #[T] o.type #[a.eval x]) (xu9 r hs (Z5 f hx)) ?_
      obtain ⟨cs, hcs⟩ := qx4 (ρ := a.eval) hop
      rw [hcs]
      rfl
    . cases hs
  . rename_i x T e
    cases e
    split at hs
    . rename_i va hx
      refine fin (s := Builtin.cap_ #[T] o.type #[a.eval x]) (xv0 r hs (Z5 f hx)) ?_
      obtain ⟨cs, hcs⟩ := qx4 (ρ := a.eval) hop
      rw [hcs]
      rfl
    . cases hs
  . cases hs
 | _ => rw [hop] at hs; simp [aVal0] at hs
def onext (x : Option (List (Value × AH))) : Outs := match x with | some l => some (l.map fun p => (.val p.1, p.2)) | none => none
structure VB where
 f : Program -> Nat -> T Value -> AH -> Option Value
def kInt : BinOp -> Option (Int -> Int -> Value)
 | .add => some fun a b => .int .i64 (IntKind.i64.wrap (a + b))
 | .sub => some fun a b => .int .i64 (IntKind.i64.wrap (a - b))
 | .lss => some fun a b => .bool (a < b)
 | .leq => some fun a b => .bool (a ≤ b)
 | .gtr => some fun a b => .bool (a > b)
 | .geq => some fun a b => .bool (a ≥ b)
 | .eql => some fun a b => .bool (a == b)
 | .neq => some fun a b => .bool (a != b)
 | _ => none
theorem yz7 {op : BinOp} {g : Int -> Int -> Value} (hg : kInt op = some g) (T : TypeId) (x y : Operand) (a b : Int) : aBin P op T x y (.int .i64 a) (.int .i64 b) h = some (g a b) := by
 cases op <;> first | (cases hg; rfl) | (cases hg)
def kVal : Op -> VB
 | .move x => ⟨fun _ n t _ => aO n t x⟩
 | .assign x => ⟨fun _ n t _ => aO n t x⟩
 | .pick c a b => ⟨fun _ n t _ => match aO n t c with
  | some (.bool q) => aO n t (if q then a else b)
  | _ => none⟩
 | .build T ⟨ps⟩ => ⟨fun P n t _ => match aPs n t ps with | some l => aBuild P T l | none => none⟩
 | .load T x => ⟨fun P n t h => match aO n t x with | some (.pointer (some a)) => aLoad P T a h | _ => none⟩
 | .nilCheck x => ⟨fun _ n t _ => match aO n t x with | some v => if nilOk v then some v else none | none => none⟩
 | .binOp op T x y _ => match kInt op with
  | some g => ⟨fun P n t h => match aO n t x, aO n t y with | some (.int .i64 a), some (.int .i64 b) => some (g a b) | some a, some b => aBin P op T x y a b h | _, _ => none⟩
  | none => ⟨fun P n t h => match aO n t x, aO n t y with | some a, some b => aBin P op T x y a b h | _, _ => none⟩
 | .unOp op _ x => ⟨fun P n t _ => match aO n t x with | some v => aUn P op v | none => none⟩
 | .convert s d x => ⟨fun P n t h => match aO n t x with | some v => aConv P s d v h | none => none⟩
 | .makeInterface T x => ⟨fun P n t _ => match aO n t x with | some v => aMkI P T v | none => none⟩
 | .makeFunc (.func f) ⟨l⟩ ⟨m⟩ => ⟨fun _ n t _ => match aOs n t l, aOs n t m with | some a, some b => some (.func (.func f) ⟨a⟩ ⟨b⟩) | _, _ => none⟩
 | .slice T x lo hi mx => ⟨fun P n t h => match aO n t x, aOO n t lo, aOO n t hi, aOO n t mx with | some v, some a, some b, some c => aSl P T v a b c h | _, _, _, _ => none⟩
 | .fieldAddr s x f => ⟨fun P n t _ => match aO n t x with | some (.pointer (some a)) => aField P s a f | _ => none⟩
 | .field T x f => ⟨fun P n t _ => match aO n t x with | some v => aFieldV P T v f | none => none⟩
 | .indexAddr T x i => ⟨fun P n t _ => match aO n t x, aO n t i with | some v, some j => aIndex P T v j | _, _ => none⟩
 | .index T x i => ⟨fun P n t _ => match aO n t x, aO n t i with | some v, some j => aIndexV P T v j | _, _ => none⟩
 | .lookup T x k c => ⟨fun P n t h => match aO n t x, aO n t k with | some v, some j => aLookupX P T v j c h | _, _ => none⟩
 | .typeAssert x _ T c => ⟨fun P n t _ => match aO n t x with | some v => aAssert P v T c | none => none⟩
 | .extract x i => ⟨fun _ n t _ => match aO n t x with | some v => aExtract v i | none => none⟩
 | .entry it => ⟨fun _ n t h => match aO n t it with | some v => aEntryIt v h | none => none⟩
 | .call ⟨.builtin .len, ⟨[x]⟩, ⟨[T]⟩⟩ => ⟨fun P n t h => match aO n t x with | some v => aLen P T v h | none => none⟩
 | .call ⟨.builtin .cap, ⟨[x]⟩, ⟨[T]⟩⟩ => ⟨fun P n t _ => match aO n t x with | some v => aCap P T v | none => none⟩
 | _ => ⟨fun _ _ _ _ => none⟩
def aVal (P : Program) (n : Nat) (t : T Value) (h : AH) (o : Op) : Option Value := (kVal o).f P n t h
theorem qj0 (o : Op) : aVal P n t h o = aVal0 P n t h o := by
 cases o with
 | binOp op T x y yt =>
  unfold aVal kVal
  dsimp only
  cases hg : kInt op with
  | none => rfl
  | some g =>
   dsimp only
   simp only [aVal0]
   split
   . rename_i a b h1 h2
     rw [h1, h2]; exact (yz7 hg T x y a b).symm
   . rename_i a b _ h1 h2
     rw [h1, h2]
   . rename_i h0 h1
     split
     . rename_i a b h2 h3; exact (h1 _ _ h2 h3).elim
     . rfl
 | _ => unfold aVal kVal aVal0; first | rfl | (split <;> first | rfl | (exfalso; simp_all; done))
theorem simN (r : R w0 φ h w) {a : Act} (f : FR φ n t a.tmps) {o : Oper} {v : Value} (hs : aVal P n t h o.op = some v) :
 ∃ nx w' φ', (execOp a.eval o).run P w = .ok nx w' /\ Nx φ φ' h h /\ R w0 φ' h w' /\ NR φ' (.val v) nx := simN0 r f (by rw [<- qj0]; exact hs)
def aAct0 (P : Program) (n : Nat) (t : T Value) (h : AH) : Op -> Outs
 | .store T a x => match aO n t a, aO n t x with | some (.pointer (some p)), some v => osk (aStore P T p v h) | _, _ => none
 | .mapUpdate T m k x => match aO n t m, aO n t k, aO n t x with | some a, some b, some c => osk (aUpdateX P T a b c h) | _, _, _ => none
 | .insert T m k x => match aO n t m, aO n t k, aO n t x with | some a, some b, some c => osk (aUpdate P T a b c h) | _, _, _ => none
 | .mapEntry T m k => match aO n t m, aO n t k with | some a, some b => ovh (aEntry P T a b h) | _, _ => none
 | .entryStore T m s x => match aO n t m, aO n t s, aO n t x with | some a, some b, some c => osk (aEStore T a b c h) | _, _, _ => none
 | .range T x => match aO n t x with | some v => ovh (aRange P T v h) | none => none
 | .next it isS => match aO n t it with | some v => onext (aNext v isS h) | none => none
 | .convert s d x => match aO n t x with | some v => aS2B P s d v h | none => none
 | .call ⟨.builtin b, ⟨args⟩, ⟨Ts⟩⟩ => match aOs n t args with | some vs => aBuiltin P b Ts vs h | none => none
 | _ => none
theorem simA0 (r : R w0 φ h w) {a : Act} (f : FR φ n t a.tmps) {o : Oper} {l : List (AN × AH)} (hs : aAct0 P n t h o.op = some l) : Sim w0 P φ h w (execOp a.eval o) l := by
 cases hop : o.op with
 | store T x y =>
  rw [hop] at hs; simp only [aAct0] at hs
  split at hs
  . rename_i p v hx hy
    have he : execOp a.eval o = (do Instr.storeAt T (a.eval x) (a.eval y); pure .skip) := by simp only [execOp, hop]
    rw [he]
    exact .osk hs (fun h' hh => jq7 r hh (Z5 f hx) (Z5 f hy))
  . cases hs
 | convert s d x =>
  rw [hop] at hs; simp only [aAct0] at hs
  split at hs
  . rename_i va hx
    have he : execOp a.eval o = (do pure (.value (<- convert s d (a.eval x)))) := by simp only [execOp, hop]
    rw [he]
    exact ug6 r hs (Z5 f hx)
  . cases hs
 | mapUpdate T m k x =>
  rw [hop] at hs; simp only [aAct0] at hs
  split at hs
  . rename_i va vb vc h1 h2 h3
    have he : execOp a.eval o = (do Instr.mapUpdate T (a.eval m) (a.eval k) (a.eval x); pure .skip) := by simp only [execOp, hop]
    rw [he]
    exact .osk hs (fun h' hh => yj5 r hh (Z5 f h1) (Z5 f h2) (Z5 f h3))
  . cases hs
 | insert T m k x =>
  rw [hop] at hs; simp only [aAct0] at hs
  split at hs
  . rename_i va vb vc h1 h2 h3
    have he : execOp a.eval o = (do Instr.mapUpdate T (a.eval m) (a.eval k) (a.eval x); pure .skip) := by simp only [execOp, hop]
    rw [he]
    exact .osk hs (fun h' hh => zu1 r hh (Z5 f h1) (Z5 f h2) (Z5 f h3))
  . cases hs
 | mapEntry T m k =>
  rw [hop] at hs; simp only [aAct0] at hs
  split at hs
  . rename_i va vb h1 h2
    have he : execOp a.eval o = (do pure (.value (<- Instr.mapEntry T (a.eval m) (a.eval k)))) := by simp only [execOp, hop]
    rw [he]
    exact .ovh hs (fun v h' hh => jz3 r hh (Z5 f h1) (Z5 f h2))
  . cases hs
 | entryStore T m s x =>
  rw [hop] at hs; simp only [aAct0] at hs
  split at hs
  . rename_i va vb vc h1 h2 h3
    have he : execOp a.eval o = (do Instr.entryStore T (a.eval m) (a.eval s) (a.eval x); pure .skip) := by simp only [execOp, hop]
    rw [he]
    exact .osk hs (fun h' hh => xz3 r hh (Z5 f h1) (Z5 f h2) (Z5 f h3))
  . cases hs
 | range T x =>
  rw [hop] at hs; simp only [aAct0] at hs
  split at hs
  . rename_i va h1
    have he : execOp a.eval o = (do pure (.value (<- Instr.range T (a.eval x)))) := by simp only [execOp, hop]
    rw [he]
    exact .ovh hs (fun v h' hh => jz0 r hh (Z5 f h1))
  . cases hs
 | next it isS =>
  rw [hop] at hs; simp only [aAct0] at hs
  split at hs
  . rename_i va h1
    have he : execOp a.eval o = (do pure (.value (<- Instr.next (a.eval it) isS o.type))) := by simp only [execOp, hop]
    rw [he]
    unfold onext at hs
    split at hs
    . rename_i m hm
      cases hs
      obtain ⟨v, h', hmem, hsv⟩ := jw1 (ty := o.type) r hm (Z5 f h1)
      exact .ofV hsv (List.mem_map.2 ⟨_, hmem, rfl⟩)
    . cases hs
  . cases hs
 | call c =>
  rw [hop] at hs
  obtain ⟨callee, args, Ts⟩ := c
  obtain ⟨args⟩ := args
  obtain ⟨Ts⟩ := Ts
  cases callee with
  | builtin b =>
    simp only [aAct0] at hs
    split at hs
    . rename_i vs hvs
      obtain ⟨cs, hcs⟩ := qx4 (ρ := a.eval) hop
      rw [hcs]
      exact yu2 r hs (zz8 f hvs)
    . cases hs
  | _ => simp [aAct0] at hs
 | _ => rw [hop] at hs; simp [aAct0] at hs
structure AB where
 f : Program -> Nat -> T Value -> AH -> Outs
def kAct : Op -> AB
 | .store T a x => ⟨fun P n t h => match aO n t a, aO n t x with | some (.pointer (some p)), some v => osk (aStore P T p v h) | _, _ => none⟩
 | .mapUpdate T m k x => ⟨fun P n t h => match aO n t m, aO n t k, aO n t x with | some a, some b, some c => osk (aUpdateX P T a b c h) | _, _, _ => none⟩
 | .insert T m k x => ⟨fun P n t h => match aO n t m, aO n t k, aO n t x with | some a, some b, some c => osk (aUpdate P T a b c h) | _, _, _ => none⟩
 | .mapEntry T m k => ⟨fun P n t h => match aO n t m, aO n t k with | some a, some b => ovh (aEntry P T a b h) | _, _ => none⟩
 | .entryStore T m s x => ⟨fun _ n t h => match aO n t m, aO n t s, aO n t x with | some a, some b, some c => osk (aEStore T a b c h) | _, _, _ => none⟩
 | .range T x => ⟨fun P n t h => match aO n t x with | some v => ovh (aRange P T v h) | none => none⟩
 | .next it isS => ⟨fun _ n t h => match aO n t it with | some v => onext (aNext v isS h) | none => none⟩
 | .convert s d x => ⟨fun P n t h => match aO n t x with | some v => aS2B P s d v h | none => none⟩
 | .call ⟨.builtin b, ⟨args⟩, ⟨Ts⟩⟩ => ⟨fun P n t h => match aOs n t args with | some vs => aBuiltin P b Ts vs h | none => none⟩
 | _ => ⟨fun _ _ _ _ => none⟩
def aAct (P : Program) (n : Nat) (t : T Value) (h : AH) (o : Op) : Outs := (kAct o).f P n t h
theorem zj2 (o : Op) : aAct P n t h o = aAct0 P n t h o := by
 unfold aAct kAct aAct0
 split <;> rfl
theorem simA (r : R w0 φ h w) {a : Act} (f : FR φ n t a.tmps) {o : Oper} {l : List (AN × AH)} (hs : aAct P n t h o.op = some l) : Sim w0 P φ h w (execOp a.eval o) l := simA0 r f (by rw [<- zj2]; exact hs)
end
end Go.X
