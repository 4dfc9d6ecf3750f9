/- Parts of the closed evaluator. -/
import Derived.Test.YtjhbbdfbngbjcaaGreatDoorZa
import Derived.Lib.Builder
import Derived.Lib.UnsafeStr
import Derived.RangeFuncRecord
import Derived.OrdersIn
import Derived.Lib.ConvBytes
import Derived.Laws.Externs
namespace Go.X
noncomputable section
open Go Go.RowKit
variable {w0 w w' : World} {φ φ' : Phi} {h h' : AH} {P : Program} {n : Nat} {t : T Value}
def rwB (h : AH) (b : Nat) : Bool := match h.m.get b with
 | some (.cells _ _ _ false) => true
 | some (.tcells _ _ _ _) => true
 | _ => false
theorem rw_row (r : R w0 φ h w) {b : Nat} {i : Im} (hi : φ b = some i) (hr : rwB h b = true) : ∃ o arr el, h.m.get b = some o ∧ o.ro = false ∧ w.heap[i.c]? = some (.cells arr el (0, 0)) := by
 unfold rwB at hr
 split at hr
 · rename_i c n op hg
   obtain ⟨_, _, _, arr, el, ⟨fz, hw, hr1, _⟩, _⟩ := r.dom _ _ _ hi hg
   cases hr1 rfl
   exact ⟨_, arr, el, hg, rfl, hw⟩
 · rename_i ty c n op hg
   obtain ⟨_, _, _, arr, hw, _⟩ := r.dom _ _ _ hi hg
   exact ⟨_, arr, ty, hg, rfl, hw⟩
 · cases hr
theorem run_sameAddr (r : R w0 φ h w) {a b : Addr} {i j : Im} {va vb : Value} (hi : φ a.block = some i) (hj : φ b.block = some j) (_ha : h.cell a = some va) (_hb : h.cell b = some vb) (hra : rwB h a.block = true) (hrb : rwB h b.block = true) :
   (sameAddr ⟨i.c, a.off + i.d, none⟩ ⟨j.c, b.off + j.d, none⟩).run P w = .ok (decide (a.block = b.block ∧ a.off = b.off)) w := by
 obtain ⟨oa, arr, el, hga, hra, hw⟩ := rw_row r hi hra
 obtain ⟨ob, arr2, el2, hgb, hrb, hw2⟩ := rw_row r hj hrb
 unfold sameAddr
 by_cases e : a.block = b.block
 · rw [e] at hi
   rw [hi] at hj; cases hj
   have : ((i.c == i.c) : Bool) = true := by simp
   rw [if_pos this]
   simp only [Sem.run_pure]
   congr 1
   by_cases e2 : a.off = b.off
   · simp [e, e2]
   · have : ¬ (a.off + i.d = b.off + i.d) := by omega
     simp [e2]
 · have hne : i.c ≠ j.c := fun hc => e (r.inj _ _ _ _ _ _ hi hj hga hgb hra hc)
   rw [if_neg (by simpa using hne)]
   have e3 : decide (a.block = b.block ∧ a.off = b.off) = false := by simp [e]
   rw [e3]
   simp [noView, viewAt, mayBeOne, stringish, frozen, shape, Sem.run, World.frozen?, World.shape?, hw, hw2]
def aEqV (P : Program) (T : TypeId) (x y : Value) (h : AH) : Option Bool := match P.underlying T, x, y with
 | some (.pointer _), .pointer none, .pointer b => some b.isNone
 | some (.pointer _), .pointer (some _), .pointer none => some false
 | some (.pointer el), .pointer (some a), .pointer (some b) => (match szOf P el, h.cell a, h.cell b with
  | some (_ + 1), some _, some _ => if rwB h a.block && rwB h b.block then some (decide (a.block = b.block ∧ a.off = b.off)) else none
  | _, _, _ => none)
 | some (.interface _), .nilIface, .iface _ _ => some false
 | some (.interface _), .iface _ _, .nilIface => some false
 | some (.slice _), .slice none _ _, .slice b _ _ => some b.isNone
 | some (.slice _), .slice (some _) _ _, .slice none _ _ => some false
 | some (.map _ _), .map none, .map b => some b.isNone
 | some (.map _ _), .map (some _), .map none => some false
 | some (.func _ _ _), .nilFunc, .func _ _ _ => some false
 | some (.func _ _ _), .func _ _ _, .nilFunc => some false
 | _, _, _ => none
theorem eqIn_ok (r : R w0 φ h w) {T : TypeId} {x y x' y' : Value} {b : Bool} (hs : aEqV P T x y h = some b) (hx : VR φ x x') (hy : VR φ y y') (d : Nat) : (Op.equalIn (d + 1) T x' y').run P w = .ok b w := by
 unfold aEqV at hs
 split at hs
 · rename_i el b' hu
   cases hs; cases hx
   cases hy <;> simp only [Op.equalIn, Sem.run_bind, run_underlying hu, Result.andThen_ok] <;> rfl
 · rename_i el a hu
   cases hs
   obtain ⟨i, hi, _, rfl⟩ := hx.ptr_inv
   cases hy
   simp only [Op.equalIn, Sem.run_bind, run_underlying hu, Result.andThen_ok]; rfl
 · rename_i el a b0 hu
   split at hs
   · rename_i k va vb hk ha hb
     by_cases hrw : (rwB h a.block && rwB h b0.block) = true
     case neg => rw [if_neg hrw] at hs; cases hs
     rw [if_pos hrw] at hs
     rw [Bool.and_eq_true] at hrw
     cases hs
     obtain ⟨i, hi, _, rfl⟩ := hx.ptr_inv
     obtain ⟨j, hj, _, rfl⟩ := hy.ptr_inv
     have := run_sameAddr (P := P) r hi hj ha hb hrw.1 hrw.2
     simp only [Op.equalIn, Sem.run_bind, run_underlying hu, rSz hk, Result.andThen_ok]
     rw [if_pos (by omega)]; exact this
   · cases hs
 · rename_i ms t0 v0 hu
   cases hs; cases hx; cases hy
   simp only [Op.equalIn, Sem.run_bind, run_underlying hu, Result.andThen_ok]; rfl
 · rename_i ms t0 v0 hu
   cases hs; cases hx; cases hy
   simp only [Op.equalIn, Sem.run_bind, run_underlying hu, Result.andThen_ok]; rfl
 · rename_i el l c b0 l2 c2 hu
   cases hs; cases hx
   cases hy <;> simp only [Op.equalIn, Sem.run_bind, run_underlying hu, Result.andThen_ok] <;> rfl
 · rename_i el a l c l2 c2 hu
   cases hs
   cases hy
   cases hx <;> simp only [Op.equalIn, Sem.run_bind, run_underlying hu, Result.andThen_ok] <;> rfl
 · rename_i k el b0 hu
   cases hs; cases hx
   cases hy <;> simp only [Op.equalIn, Sem.run_bind, run_underlying hu, Result.andThen_ok] <;> rfl
 · rename_i k el b0 hu
   cases hs
   cases hy
   obtain ⟨i, _, rfl⟩ := hx.map_inv
   simp only [Op.equalIn, Sem.run_bind, run_underlying hu, Result.andThen_ok]; rfl
 · rename_i a1 a2 a3 f a b0 hu
   cases hs; cases hx; cases hy
   simp only [Op.equalIn, Sem.run_bind, run_underlying hu, Result.andThen_ok]; rfl
 · rename_i a1 a2 a3 f a b0 hu
   cases hs; cases hx; cases hy
   simp only [Op.equalIn, Sem.run_bind, run_underlying hu, Result.andThen_ok]; rfl
 · cases hs
def plainPair : Value → Value → Bool
 | .pointer _, .pointer _ | .nilIface, .iface _ _ | .iface _ _, .nilIface | .slice _ _ _, .slice _ _ _ | .map _, .map _ | .nilFunc, .func _ _ _ | .func _ _ _, .nilFunc => true
 | _, _ => false
theorem eqV_pair {T : TypeId} {x y : Value} {b : Bool} (hs : aEqV P T x y h = some b) : plainPair x y = true := by
 unfold aEqV at hs
 split at hs <;> first | rfl | cases hs
theorem VR.pair {x y x' y' : Value} (hx : VR φ x x') (hy : VR φ y y') (hp : plainPair x y = true) : plainPair x' y' = true := by
 cases hx <;> cases hy <;> first | rfl | (simp [plainPair] at hp)
theorem pair_guard {op : BinOp} {T : TypeId} {xo yo : Operand} {x y : Value} (hp : plainPair x y = true) (w : World) : (eqGuard op T xo yo x y).run P w = .ok () w := by
 unfold eqGuard
 cases op <;> first | rfl | (cases x <;> cases y <;> first | rfl | (simp [plainPair] at hp))
theorem pair_eql {T : TypeId} {x y : Value} (hp : plainPair x y = true) : binOp .eql T x y = (do pure (.bool (← Op.equal T x y))) := by
 cases x <;> cases y <;> first | rfl | (simp [plainPair] at hp)
theorem pair_neq {T : TypeId} {x y : Value} (hp : plainPair x y = true) : binOp .neq T x y = (do pure (.bool (!(← Op.equal T x y)))) := by
 cases x <;> cases y <;> first | rfl | (simp [plainPair] at hp)
def aBinV (P : Program) (op : BinOp) (T : TypeId) (x y : Value) (h : AH) : Option Value := match op with
 | .eql => (match aEqV P T x y h with | some b => some (.bool b) | none => none)
 | .neq => (match aEqV P T x y h with | some b => some (.bool (!b)) | none => none)
 | _ => none
theorem sim_binV (r : R w0 φ h w) {op : BinOp} {T : TypeId} {xo yo : Operand} {x y x' y' v : Value} (hs : aBinV P op T x y h = some v) (hx : VR φ x x') (hy : VR φ y y') :
   SimV w0 P φ h w (do eqGuard op T xo yo x' y'; binOp op T x' y') v h := by
 unfold aBinV at hs
 split at hs
 · split at hs
   · rename_i b hb
     cases hs
     have hp := hx.pair hy (eqV_pair hb)
     refine .here r (v' := .bool b) ?_ (.bool b)
     have := eqIn_ok r hb hx hy 9999
     rw [Sem.run_bind, pair_guard hp, Result.andThen_ok, pair_eql hp, Sem.run_bind]
     unfold Op.equal
     rw [show Op.maxDepth = 9999 + 1 from rfl, this, Result.andThen_ok]
     rfl
   · cases hs
 · split at hs
   · rename_i b hb
     cases hs
     have hp := hx.pair hy (eqV_pair hb)
     refine .here r (v' := .bool (!b)) ?_ (.bool _)
     have := eqIn_ok r hb hx hy 9999
     rw [Sem.run_bind, pair_guard hp, Result.andThen_ok, pair_neq hp, Sem.run_bind]
     unfold Op.equal
     rw [show Op.maxDepth = 9999 + 1 from rfl, this, Result.andThen_ok]
     rfl
   · cases hs
 · cases hs
def aStr (op : BinOp) (a b : ByteArray) : Option Value := match op with
 | .eql => some (.bool (a.data.toList == b.data.toList))
 | .neq => some (.bool (!(a.data.toList == b.data.toList)))
 | .add => if a.size + b.size < 1099511627776 then some (.string ⟨⟨a.data.toList ++ b.data.toList⟩⟩) else none
 | .lss => some (.bool (Op.bytesLess a.data.toList b.data.toList))
 | .geq => some (.bool (!Op.bytesLess a.data.toList b.data.toList))
 | .leq => some (.bool (Op.bytesLess a.data.toList b.data.toList || a.data.toList == b.data.toList))
 | .gtr => some (.bool (!(Op.bytesLess a.data.toList b.data.toList || a.data.toList == b.data.toList)))
 | _ => none
theorem sim_str (r : R w0 φ h w) {op : BinOp} {T : TypeId} {xo yo : Operand} {a b : ByteArray} {v : Value} (hs : aStr op a b = some v) :
   SimV w0 P φ h w (do eqGuard op T xo yo (.string a) (.string b); binOp op T (.string a) (.string b)) v h := by
 have hg : (eqGuard op T xo yo (.string a) (.string b)).run P w = .ok () w := by unfold eqGuard; cases op <;> rfl
 have e1 := ByteArray.toList_eq a
 have e2 := ByteArray.toList_eq b
 unfold aStr at hs
 split at hs
 all_goals first | (cases hs; done) | skip
 · cases hs
   refine .here r (v' := .bool _) ?_ (.bool _)
   rw [Sem.run_bind, hg, Result.andThen_ok]
   simp [binOp, Op.stringOp, e1, e2]
 · cases hs
   refine .here r (v' := .bool _) ?_ (.bool _)
   rw [Sem.run_bind, hg, Result.andThen_ok]
   simp [binOp, Op.stringOp, e1, e2]
 · split at hs
   · rename_i hc
     cases hs
     refine .here r (v' := .string ⟨⟨a.data.toList ++ b.data.toList⟩⟩) ?_ (.string _)
     rw [Sem.run_bind, hg, Result.andThen_ok]
     show (Op.stringOp .add a b).run P w = _
     rw [run_string_add_sum w a b (by omega)]
     have e3 : a ++ b = ⟨⟨a.data.toList ++ b.data.toList⟩⟩ := by
      apply ByteArray.ext
      rw [ByteArray.data_append]
      apply Array.ext'
      simp
     rw [e3]
   · cases hs
 · cases hs
   refine .here r (v' := .bool _) ?_ (.bool _)
   rw [Sem.run_bind, hg, Result.andThen_ok]
   simp [binOp, Op.stringOp, e1, e2]
 · cases hs
   refine .here r (v' := .bool _) ?_ (.bool _)
   rw [Sem.run_bind, hg, Result.andThen_ok]
   simp [binOp, Op.stringOp, e1, e2]
 · cases hs
   refine .here r (v' := .bool _) ?_ (.bool _)
   rw [Sem.run_bind, hg, Result.andThen_ok]
   simp [binOp, Op.stringOp, e1, e2]
 · cases hs
   refine .here r (v' := .bool _) ?_ (.bool _)
   rw [Sem.run_bind, hg, Result.andThen_ok]
   simp [binOp, Op.stringOp, e1, e2]
def intsOf : List Value → Option (List Int)
 | [] => some []
 | .int .u8 n :: l => (match intsOf l with | some m => some (n :: m) | none => none)
 | _ => none
theorem intsOf_ok {l l' : List Value} (hl : LR φ l l') : ∀ {m : List Int}, intsOf l = some m → l' = m.map (Value.int .u8) := by
 induction hl with
 | nil => intro m h; simp only [intsOf] at h; cases h; rfl
 | cons hv _ ih =>
  intro m h
  unfold intsOf at h
  split at h
  · rename_i e; cases e
  · rename_i n l0 e
    cases e
    split at h
    · rename_i m' hm
      cases h
      obtain rfl := hv.int_inv
      rw [ih hm]; rfl
    · cases h
  · cases h
def aB2S (P : Program) (sT dT : TypeId) (x : Value) (h : AH) : Option Value := match P.underlying sT, P.underlying dT, x with
 | some (.slice el), some .string, .slice (some a) l c => (match P.underlying el with
  | some (.int .u8) => (match (if l = 0 then some [] else if c = 0 then none else h.cells a 0 l) with
   | some cs => (match intsOf cs with
    | some ns => some (.string ⟨⟨ns.map fun n => UInt8.ofNat n.toNat⟩⟩)
    | none => none)
   | none => none)
  | _ => none)
 | _, _, _ => none
theorem sim_b2s (r : R w0 φ h w) {sT dT : TypeId} {x x' v : Value} (hs : aB2S P sT dT x h = some v) (hx : VR φ x x') : SimV w0 P φ h w (convert sT dT x') v h := by
 unfold aB2S at hs
 split at hs
 · rename_i el a l c hu hd
   split at hs
   · rename_i he
     split at hs
     · rename_i cs hcs
       split at hs
       · rename_i ns hns
         cases hs
         have : ∃ a' c', x' = .slice (some a') l c' ∧ (loadCells a' l).run P w = .ok (ns.map (Value.int .u8)).toArray w := by
          by_cases hl : l = 0
          · subst hl
            rw [if_pos rfl] at hcs
            cases hcs
            simp only [intsOf] at hns
            cases hns
            have : ∃ a' c', x' = .slice (some a') 0 c' := by cases hx <;> exact ⟨_, _, rfl⟩
            obtain ⟨a', c', rfl⟩ := this
            exact ⟨a', c', rfl, by simp [loadCells, loadCellsFrom]⟩
          · rw [if_neg hl] at hcs
            split at hcs
            · cases hcs
            · rename_i hc
              obtain ⟨i, c', hi, hsp, rfl⟩ := hx.sl_some hc hl
              obtain ⟨l', h1, h2, h3⟩ := r.cells hi _ _ hcs
              refine ⟨_, c', rfl, ?_⟩
              rw [run_loadCells_at h1 (fun j v hj => by have := h2 j v hj; rwa [Nat.zero_add] at this), intsOf_ok h3 hns]
         obtain ⟨a', c', rfl, hld⟩ := this
         refine .here r (v' := .string ⟨⟨ns.map fun n => UInt8.ofNat n.toNat⟩⟩) ?_ (.string _)
         rw [run_convert_bytes_string w sT dT el _ _ _ hu he hd, run_bytesToString w a' l c' ns hld]
         congr 2
         have := foldl_push_bytes ns ByteArray.empty
         rw [this]
         apply ByteArray.ext
         apply Array.ext'
         simp
       · cases hs
     · cases hs
   · cases hs
 · cases hs
end
end Go.X
namespace Go.X
noncomputable section
open Go Go.RowKit
variable {w0 w w' : World} {φ φ' : Phi} {h h' : AH} {P : Program}
def szAt (h : AH) (b : Nat) : Option Nat := match h.m.get b with
 | some (.tcells _ _ n 0) => some n
 | _ => none
def aUnsP (P : Program) (s d : TypeId) (x : Value) (h : AH) : Option Value := match x with
 | .pointer (some a) => (match P.underlying s, P.underlying d with
  | some (.pointer t), some .unsafePointer => (match P.info? t, h.cell a with
   | some j, some _ => (match rwB h a.block && !Nat.beq j.size 0 with
    | true => some x
    | false => none)
   | _, _ => none)
  | some .unsafePointer, some (.pointer u) => (match P.info? u, tyAt h a.block, szAt h a.block with
   | some _, some ty, some n => (match liesAt P P.depth ty (n / P.cellsOf ty) a.off u 1 with
    | true => some x
    | false => none)
   | _, _, _ => none)
  | _, _ => none)
 | _ => none
theorem sim_unsP (r : R w0 φ h w) {s d : TypeId} {x x' v : Value} (hs : aUnsP P s d x h = some v) (hx : VR φ x x') : SimV w0 P φ h w (convert s d x') v h := by
 unfold aUnsP at hs
 split at hs
 · rename_i a
   obtain ⟨i, hi, hsp, rfl⟩ := hx.ptr_inv
   have hxv : VR φ (.pointer (some a)) (.pointer (some ⟨i.c, a.off + i.d, none⟩)) := .ptr i hi hsp
   split at hs
   · rename_i t hu hd
     split at hs
     · rename_i j u hj hc
       split at hs
       · rename_i hb
         cases hs
         rw [Bool.and_eq_true] at hb
         obtain ⟨o, arr, el, _, _, hw⟩ := rw_row r hi hb.1
         obtain ⟨v', h1, _, _⟩ := r.cell hi hc
         have hlt : a.off + i.d < arr.size := by
          simp only [World.cell?, hw] at h1
          exact (Array.getElem?_eq_some_iff.1 h1).1
         have hj0 : j.size ≠ 0 := fun e => by rw [e] at hb; exact absurd hb.2 (by decide)
         exact .here r (Lib.run_to_unsafe w ⟨i.c, a.off + i.d, none⟩ hu hd hj hj0 (e := el) (cells := arr.size) (by simp [World.shape?, hw]) hlt) hxv
       · cases hs
     · cases hs
   · rename_i u hu hd
     split at hs
     · rename_i j ty n hj hty hsz
       split at hs
       · rename_i hl
         cases hs
         have hg : ∃ c, h.m.get a.block = some (.tcells ty c n 0) := by
          unfold szAt at hsz
          unfold tyAt at hty
          split at hsz
          · rename_i ty2 c n2 hg
            cases hsz
            rw [hg] at hty
            cases hty
            exact ⟨c, hg⟩
          · cases hsz
         obtain ⟨c, hg⟩ := hg
         obtain ⟨_, _, hd0, arr, hw, hsize, ⟨_, h0⟩, _⟩ := r.dom _ _ _ hi hg
         have hn : arr.size = n := by rw [hsize, ← h0 rfl]
         refine .here r (Lib.run_from_unsafe w ⟨i.c, a.off + i.d, none⟩ hu hd hj (e := ty) (cells := arr.size) (by simp [World.shape?, hw]) ?_) hxv
         rw [hn, hd0, Nat.add_zero]
         exact hl
       · cases hs
     · cases hs
   · cases hs
 · cases hs
def aSData (x : Value) : Option Value := match x with
 | .slice (some a) l c => (match a.spot with
  | some _ => none
  | none => (match Nat.beq c open_ with
   | true => (match Nat.beq l 0 with
    | true => none
    | false => some (.pointer (some a)))
   | false => (match Nat.beq c 0 with
    | true => none
    | false => some (.pointer (some a)))))
 | _ => none
theorem sim_sdata (r : R w0 φ h w) {Ts : Array TypeId} {ty : TypeId} {x x' v : Value} (hs : aSData x = some v) (hx : VR φ x x') : SimV w0 P φ h w (Builtin.unsafeSliceData_ Ts ty #[x']) v h := by
 unfold aSData at hs
 split at hs
 · rename_i a l c
   split at hs
   · cases hs
   · rename_i hsp
     split at hs
     · rename_i hc
       have hc := Nat.eq_of_beq_eq_true hc
       subst hc
       split at hs
       · cases hs
       · rename_i hl
         cases hs
         obtain ⟨a', c', i, rfl, hi, _, _, hlc, _, _, ha⟩ := hx.sl_invO
         have hl0 : l ≠ 0 := fun e => by subst e; rw [Nat.beq_refl] at hl; cases hl
         obtain rfl := ha (by omega)
         exact .here r (Lib.run_unsafeSliceData_row w Ts ty _ l c' (by omega)) (.ptr i hi hsp)
     · rename_i hc
       split at hs
       · cases hs
       · rename_i hc0
         cases hs
         have h0 : c ≠ 0 := fun e => by subst e; rw [Nat.beq_refl] at hc0; cases hc0
         have ho : c ≠ open_ := fun e => by subst e; rw [Nat.beq_refl] at hc; cases hc
         obtain ⟨i, hi, hsp2, rfl⟩ := hx.sl_inv h0 ho
         exact .here r (Lib.run_unsafeSliceData_row w Ts ty _ l c h0) (.ptr i hi hsp)
 · cases hs
def bytesOfV : List Value → Option (List UInt8)
 | [] => some []
 | .int .u8 (.ofNat k) :: l => (match Nat.blt k 256, bytesOfV l with
  | true, some m => some (UInt8.ofNat k :: m)
  | _, _ => none)
 | _ :: _ => none
theorem bytesOfV_ok : ∀ {l l' : List Value} {m : List UInt8}, bytesOfV l = some m → LR φ l l' → l' = m.map fun (c : UInt8) => Value.int .u8 (c.toNat : Int)
 | [], l', m, h, hl => by cases h; cases hl; rfl
 | v :: l, l', m, h, hl => by
  unfold bytesOfV at h
  split at h
  · rename_i heq; cases heq
  · rename_i k l2 heq
    cases heq
    split at h
    · rename_i m2 hk hm
      cases h
      cases hl with
      | cons h1 h2 =>
       cases h1
       rw [bytesOfV_ok hm h2]
       have hk := Nat.le_of_ble_eq_true hk
       have : (UInt8.ofNat k).toNat = k := by simp; omega
       rw [List.map_cons, this]
       rfl
    · cases h
  · cases h
def aUStr (P : Program) (pt : TypeId) (x n : Value) (h : AH) : Option (Value × AH) := match x, n with
 | .pointer (some ⟨b, 0, none⟩), .int .i64 (.ofNat (m + 1)) => (match P.underlying pt, tyAt h b with
  | some (.pointer e), some ty => (match Nat.beq ty e && (Nat.beq (P.cellsOf e) 1 && Nat.blt m 1099511627776) with
   | true => (match h.cells ⟨b, 0, none⟩ 0 (m + 1) with
    | some cs => (match bytesOfV cs with
     | some l => some (.string ⟨⟨l⟩⟩, { h with m := h.m.set b none })
     | none => none)
    | none => none)
   | false => none)
  | _, _ => none)
 | _, _ => none
theorem R.freezeFree (r : R w0 φ h w) {g n : Nat} (free : ∀ b j o', φ b = some j → h.m.get b = some o' → j.c ≠ g) (hl : w0.heap.size ≤ g) : R w0 φ h (w.freeze ⟨g, 0, none⟩ n) := by
 have hoth : ∀ k, k ≠ g → (w.freeze ⟨g, 0, none⟩ n).heap[k]? = w.heap[k]? := by
  intro k hk
  unfold World.freeze
  split
  · rfl
  · simp only [Array.getElem?_modify]
    rw [if_neg (fun e => hk e.symm)]
 have hsz : (w.freeze ⟨g, 0, none⟩ n).heap.size = w.heap.size := by
  unfold World.freeze
  split
  · rfl
  · simp
 exact ⟨fun b i o hi ho => (r.dom b i o hi ho).world (hoth _ (free b i o hi ho)), r.low, r.inj, fun b i hi => by rw [hsz]; exact r.lt b i hi, r.nx,
  Lib.below_freeze r.below (p := ⟨g, 0, none⟩) hl n⟩
theorem sim_ustr (r : R w0 φ h w) {pt it ty : TypeId} {x n x' n' v : Value} (hs : aUStr P pt x n h = some (v, h')) (hx : VR φ x x') (hn : VR φ n n') : SimV w0 P φ h w (Builtin.unsafeString_ #[pt, it] ty #[x', n']) v h' := by
 unfold aUStr at hs
 split at hs
 · rename_i b m
   obtain ⟨i, hi, _, rfl⟩ := hx.ptr_inv
   cases hn
   split at hs
   · rename_i e ty0 hu hty
     split at hs
     · rename_i hb
       rw [Bool.and_eq_true, Bool.and_eq_true] at hb
       have e1 := Nat.eq_of_beq_eq_true hb.1
       have e2 := Nat.eq_of_beq_eq_true hb.2.1
       have e3 := Nat.le_of_ble_eq_true hb.2.2
       subst e1
       split at hs
       · rename_i cs hcs
         split at hs
         · rename_i l hl
           cases hs
           obtain ⟨l', h1, h2, h3⟩ := r.cells hi _ _ hcs
           have hl' := bytesOfV_ok hl h3
           have hlen : l.length = m + 1 := by rw [← h1, hl', List.length_map]
           have hg : ∃ c n op, h.m.get b = some (.tcells ty0 c n op) := by
            unfold tyAt at hty
            split at hty
            · rename_i t2 c n op hg; cases hty; exact ⟨c, n, op, hg⟩
            · cases hty
           obtain ⟨c, n1, op, hg⟩ := hg
           obtain ⟨_, _, hd0, arr, hw, hsize, _, _⟩ := r.dom _ _ _ hi hg
           have hcell : ∀ j x, l[j]? = some x → w.cell? ((⟨i.c, 0, none⟩ : Addr).add j) = some (.int .u8 x.toNat) := by
            intro j x hj
            have := h2 j (.int .u8 x.toNat) (by rw [hl', List.getElem?_map, hj]; rfl)
            rw [addEq]
            simpa [hd0] using this
           have hle : l.length ≤ arr.size := by
            have hj : l[m]? = some (l[m]'(by omega)) := List.getElem?_eq_getElem (by omega)
            have := hcell m _ hj
            rw [addEq] at this
            simp only [World.cell?, hw] at this
            have := (Array.getElem?_eq_some_iff.1 this).1
            omega
           have hrun := Lib.run_unsafeString_row (P := P) w pt it ty ty0 hu e2 i.c arr.size (by simp [World.shape?, hw]) l (by intro e; rw [e] at hlen; cases hlen) hle (by omega) hcell
           rw [hlen] at hrun
           have free : ∀ b' j o', φ b' = some j → (h.m.set b none).get b' = some o' → j.c ≠ i.c := by
            intro b' j o' hj hgo hc
            rw [T.get_set] at hgo
            by_cases e : b' = b
            · rw [if_pos e] at hgo; cases hgo
            · rw [if_neg e] at hgo; exact e (r.inj _ _ _ _ _ _ hi hj hg hgo rfl hc.symm).symm
           have rf := (r.drop b trivial).freezeFree (g := i.c) (n := m + 1) free (r.low _ _ _ hi hg rfl)
           refine ⟨_, _, φ, ?_, Nx.drop hi trivial, rf, .string _⟩
           simp only [hd0, Nat.add_zero]
           exact hrun
         · cases hs
       · cases hs
     · cases hs
   · cases hs
 · cases hs
end
end Go.X
namespace Go.X
noncomputable section
open Go Go.RowKit
variable {w0 w w' : World} {φ φ' : Phi} {h h' : AH} {P : Program} {n : Nat} {t : T Value}
inductive AN where
 | val (v : Value)
 | skip
 | enter (f : FuncId) (args : List Value)
 | round (b : Nat) (ts : T Value) (sz : Nat) (asg body : Code)
abbrev Outs := Option (List (AN × AH))
def one (v : Value) (h : AH) : Outs := some [(.val v, h)]
def ov (x : Option Value) (h : AH) : Outs := match x with | some v => some [(.val v, h)] | none => none
def ovh (x : Option (Value × AH)) : Outs := match x with | some (v, h) => some [(.val v, h)] | none => none
def osk (x : Option AH) : Outs := match x with | some h => some [(.skip, h)] | none => none
def oun (x : Option AH) : Outs := match x with | some h => some [(.val undef, h)] | none => none
inductive NR (φ : Phi) : AN → Next → Prop
 | val {v v' : Value} (h : VR φ v v') : NR φ (.val v) (.value v')
 | skip : NR φ .skip .skip
 | enter {f : FuncId} {l l' : List Value} (h : LR φ l l') : NR φ (.enter f l) (.enter f ⟨l'⟩)
 | round {b : Nat} {i : Im} {ts : T Value} {sz : Nat} {asg body : Code} {fn : FuncId} {arr : Array Value} (hb : φ b = some i) (hf : FR φ sz ts arr) : NR φ (.round b ts sz asg body) (.round i.c fn arr asg body)
def Sim (w0 : World) (P : Program) (φ : Phi) (h : AH) (w : World) (s : Sem Next) (l : List (AN × AH)) : Prop :=
 ∃ an h', (an, h') ∈ l ∧ ∃ nx w' φ', s.run P w = .ok nx w' ∧ Nx φ φ' h h' ∧ R w0 φ' h' w' ∧ NR φ' an nx
theorem Sim.ofV {s : Sem Value} {v : Value} {l : List (AN × AH)} (hs : SimV w0 P φ h w s v h') (hm : (.val v, h') ∈ l) : Sim w0 P φ h w (do pure (.value (← s))) l := by
 obtain ⟨v', w', φ', h1, h2, h3, h4⟩ := hs
 exact ⟨_, _, hm, .value v', w', φ', by rw [Sem.run_bind, h1]; rfl, h2, h3, .val h4⟩
theorem Sim.ofU {s : Sem Unit} {l : List (AN × AH)} (hs : ∃ w', s.run P w = .ok () w' ∧ Nx φ φ h h' ∧ R w0 φ h' w') (hm : (.skip, h') ∈ l) : Sim w0 P φ h w (do s; pure .skip) l := by
 obtain ⟨w', h1, h2, h3⟩ := hs
 exact ⟨_, _, hm, .skip, w', φ, by rw [Sem.run_bind, h1]; rfl, h2, h3, .skip⟩
theorem Sim.ov {s : Sem Value} {x : Option Value} {l : List (AN × AH)} (hl : X.ov x h = some l) (hs : ∀ v, x = some v → SimV w0 P φ h w s v h) : Sim w0 P φ h w (do pure (.value (← s))) l := by
 unfold X.ov at hl
 split at hl
 · cases hl; exact .ofV (hs _ rfl) (List.mem_singleton.2 rfl)
 · cases hl
theorem Sim.ovh {s : Sem Value} {x : Option (Value × AH)} {l : List (AN × AH)} (hl : X.ovh x = some l) (hs : ∀ v h', x = some (v, h') → SimV w0 P φ h w s v h') : Sim w0 P φ h w (do pure (.value (← s))) l := by
 unfold X.ovh at hl
 split at hl
 · cases hl; exact .ofV (hs _ _ rfl) (List.mem_singleton.2 rfl)
 · cases hl
theorem Sim.oun {s : Sem Value} {x : Option AH} {l : List (AN × AH)} (hl : X.oun x = some l) (hs : ∀ h', x = some h' → SimV w0 P φ h w s undef h') : Sim w0 P φ h w (do pure (.value (← s))) l := by
 unfold X.oun at hl
 split at hl
 · cases hl; exact .ofV (hs _ rfl) (List.mem_singleton.2 rfl)
 · cases hl
theorem Sim.osk {s : Sem Unit} {x : Option AH} {l : List (AN × AH)} (hl : X.osk x = some l) (hs : ∀ h', x = some h' → ∃ w', s.run P w = .ok () w' ∧ Nx φ φ h h' ∧ R w0 φ h' w') : Sim w0 P φ h w (do s; pure .skip) l := by
 unfold X.osk at hl
 split at hl
 · cases hl; exact .ofU (hs _ rfl) (List.mem_singleton.2 rfl)
 · cases hl
def aO (n : Nat) (t : T Value) (x : Operand) : Option Value := Operand.rec (motive := fun _ => Option Value)
 (fun k => Bool.rec (motive := fun _ => Option Value) (some (Option.rec (motive := fun _ => Value) undef (fun v => v) (t.get k))) none (Nat.ble n k))
 (fun v => Bool.rec (motive := fun _ => Option Value) none (some v) (pfv v)) (fun _ => none) (fun f => some (.func (.func f) #[] #[])) x
theorem aO_eq (n : Nat) (t : T Value) (x : Operand) : aO n t x = if opnOk n x then aEv t x else none := by
 cases x with
 | tmp k =>
  show Bool.rec (motive := fun _ => Option Value) _ _ (Nat.ble n k) = _
  cases hb : Nat.ble n k with
  | true =>
   have : ¬ k < n := Nat.not_lt.2 (Nat.le_of_ble_eq_true hb)
   simp [opnOk, this]
  | false =>
   have : k < n := Nat.lt_of_not_le (fun hle => by rw [Nat.ble_eq_true_of_le hle] at hb; cases hb)
   simp only [opnOk, this, decide_true, if_true, aEv]
   cases t.get k <;> rfl
 | const v =>
  show Bool.rec (motive := fun _ => Option Value) _ _ (pfv v) = _
  cases hb : pfv v <;> simp [opnOk, aEv, hb]
 | global g => rfl
 | func f => rfl
theorem aO_ok {a : Act} (f : FR φ n t a.tmps) {x : Operand} {v : Value} (hs : aO n t x = some v) : VR φ v (a.eval x) := by
 rw [aO_eq] at hs
 split at hs
 · exact aEv_ok f ‹_› hs
 · cases hs
def aOO (n : Nat) (t : T Value) : Option Operand → Option (Option Value)
 | none => some none
 | some x => match aO n t x with | some v => some (some v) | none => none
theorem aOO_ok {a : Act} (f : FR φ n t a.tmps) {x : Option Operand} {v : Option Value} (hs : aOO n t x = some v) : OptR φ v (x.map a.eval) := by
 cases x with
 | none => simp only [aOO] at hs; cases hs; exact .none
 | some x =>
  simp only [aOO] at hs
  split at hs
  · rename_i v' hv; cases hs; exact .some (aO_ok f hv)
  · cases hs
def aOs (n : Nat) (t : T Value) : List Operand → Option (List Value)
 | [] => some []
 | x :: l => match aO n t x, aOs n t l with
  | some v, some m => some (v :: m)
  | _, _ => none
theorem aOs_ok {a : Act} (f : FR φ n t a.tmps) : ∀ {l : List Operand} {m : List Value}, aOs n t l = some m → LR φ m (l.map a.eval)
 | [], m, hs => by simp only [aOs] at hs; cases hs; exact .nil
 | x :: l, m, hs => by
  simp only [aOs] at hs
  split at hs
  · rename_i v m' hv hm; cases hs; exact .cons (aO_ok f hv) (aOs_ok f hm)
  · cases hs
def aPs (n : Nat) (t : T Value) : List (Nat × Operand) → Option (List (Nat × Value))
 | [] => some []
 | (i, x) :: l => match aO n t x, aPs n t l with
  | some v, some m => some ((i, v) :: m)
  | _, _ => none
theorem aPs_ok {a : Act} (f : FR φ n t a.tmps) : ∀ {l : List (Nat × Operand)} {m : List (Nat × Value)}, aPs n t l = some m → PR φ m (l.map fun p => (p.1, a.eval p.2))
 | [], m, hs => by simp only [aPs] at hs; cases hs; exact .nil
 | (i, x) :: l, m, hs => by
  simp only [aPs] at hs
  split at hs
  · rename_i v m' hv hm; cases hs; exact .cons (aO_ok f hv) (aPs_ok f hm)
  · cases hs
def aPure (P : Program) (s : Sem Value) : Option Value := match pureRun P s with
 | some v => if pfv v then some v else none
 | none => none
theorem sim_pure (r : R w0 φ h w) {s : Sem Value} {v : Value} (hs : aPure P s = some v) : SimV w0 P φ h w s v h := by
 unfold aPure at hs
 split at hs
 · rename_i v' hv
   split at hs
   · cases hs; exact .here r (run_of_pure hv w) (pfv_refl φ ‹_›)
   · cases hs
 · cases hs
def aBin (P : Program) (op : BinOp) (T : TypeId) (xo yo : Operand) (x y : Value) (h : AH) : Option Value := match x, y with
 | .int _ _, .int _ _ => aPure P (do eqGuard op T xo yo x y; binOp op T x y)
 | .string a, .string b => aStr op a b
 | _, _ => match aBinV P op T x y h with
  | some v => some v
  | none => if pfv x && pfv y then aPure P (do eqGuard op T xo yo x y; binOp op T x y) else none
theorem sim_bin (r : R w0 φ h w) {op : BinOp} {T : TypeId} {xo yo : Operand} {x y x' y' v : Value} (hs : aBin P op T xo yo x y h = some v) (hx : VR φ x x') (hy : VR φ y y') :
   SimV w0 P φ h w (do eqGuard op T xo yo x' y'; binOp op T x' y') v h := by
 unfold aBin at hs
 split at hs
 · obtain rfl := hx.int_inv
   obtain rfl := hy.int_inv
   exact sim_pure r hs
 · cases hx; cases hy
   exact sim_str r hs
 · split at hs
   · rename_i v' hv
     cases hs
     exact sim_binV r hv hx hy
   · split at hs
     · rename_i hp
       simp only [Bool.and_eq_true] at hp
       obtain rfl := pfv_same hp.1 hx
       obtain rfl := pfv_same hp.2 hy
       exact sim_pure r hs
     · cases hs
def aConv (P : Program) (s d : TypeId) (x : Value) (h : AH) : Option Value := match aB2S P s d x h with
 | some v => some v
 | none => (match aUnsP P s d x h with
  | some v => some v
  | none => if pfv x then aPure P (convert s d x) else none)
theorem sim_conv (r : R w0 φ h w) {s d : TypeId} {x x' v : Value} (hs : aConv P s d x h = some v) (hx : VR φ x x') : SimV w0 P φ h w (convert s d x') v h := by
 unfold aConv at hs
 split at hs
 · rename_i v' hv
   cases hs
   exact sim_b2s r hv hx
 · split at hs
   · rename_i v' hv
     cases hs
     exact sim_unsP r hv hx
   · split at hs
     · rename_i hp
       obtain rfl := pfv_same hp hx
       exact sim_pure r hs
     · cases hs
def pfo : Option Value → Bool
 | none => true
 | some v => pfv v
theorem pfo_same {x x' : Option Value} (hp : pfo x = true) (hx : OptR φ x x') : x' = x := by
 cases hx with
 | none => rfl
 | some h => rw [pfv_same hp h]
def aSl (P : Program) (T : TypeId) (x : Value) (lo hi mx : Option Value) (h : AH) : Option Value := match aSlice P T x lo hi mx h with
 | some v => some v
 | none => if pfv x && pfo lo && pfo hi && pfo mx then aPure P (Instr.sliceAt T x lo hi mx) else none
theorem sim_sl (r : R w0 φ h w) {T : TypeId} {x v x' : Value} {lo hi mx lo' hi' mx' : Option Value} (hs : aSl P T x lo hi mx h = some v) (hx : VR φ x x') (hlo : OptR φ lo lo') (hhi : OptR φ hi hi') (hmx : OptR φ mx mx') :
   SimV w0 P φ h w (Instr.sliceAt T x' lo' hi' mx') v h := by
 unfold aSl at hs
 split at hs
 · rename_i v' hv
   cases hs
   exact sim_slice r hv hx hlo hhi hmx
 · split at hs
   · rename_i hp
     simp only [Bool.and_eq_true] at hp
     obtain rfl := pfv_same hp.1.1.1 hx
     obtain rfl := pfo_same hp.1.1.2 hlo
     obtain rfl := pfo_same hp.1.2 hhi
     obtain rfl := pfo_same hp.2 hmx
     exact sim_pure r hs
   · cases hs
def aUn (P : Program) (op : UnOp) (x : Value) : Option Value := if pfv x then aPure P (Op.unary op x) else none
theorem sim_un (r : R w0 φ h w) {op : UnOp} {x x' v : Value} (hs : aUn P op x = some v) (hx : VR φ x x') : SimV w0 P φ h w (Op.unary op x') v h := by
 unfold aUn at hs
 split at hs
 · rename_i hp
   obtain rfl := pfv_same hp hx
   exact sim_pure r hs
 · cases hs
def nilOk : Value → Bool
 | .pointer (some _) | .iface _ _ | .func (.func _) _ _ => true
 | _ => false
def aBuiltin (P : Program) (b : Builtin) (Ts : List TypeId) (vs : List Value) (h : AH) : Outs := match b, Ts, vs with
 | .len, [T], [x] => ov (aLen P T x h) h
 | .cap, [T], [x] => ov (aCap P T x) h
 | .append, [T, U], [s, x] => ovh (aAppend P T U s x h)
 | .copy, [T, _], [d, x] => ovh (aCopy P T d x h)
 | .delete, [T, _], [m, k] => oun (aDelete P T m k h)
 | .clear, [T], [x] => oun (aClear P T x h)
 | .max, _, l => if l.all pfv then ov (aPure P (Builtin.max_ #[] 0 ⟨l⟩)) h else none
 | .min, _, l => if l.all pfv then ov (aPure P (Builtin.min_ #[] 0 ⟨l⟩)) h else none
 | .unsafeSliceData, _, [x] => ov (aSData x) h
 | .unsafeString, [pt, _], [x, n] => ovh (aUStr P pt x n h)
 | _, _, _ => none
theorem all_same {l l' : List Value} (hl : LR φ l l') (hp : l.all pfv = true) : l' = l := by
 induction hl with
 | nil => rfl
 | cons hv _ ih =>
  simp only [List.all_cons, Bool.and_eq_true] at hp
  rw [pfv_same hp.1 hv, ih hp.2]
theorem LR.one_inv {v : Value} {l : List Value} (hl : LR φ [v] l) : ∃ v', l = [v'] ∧ VR φ v v' := by
 cases hl with | cons h t => cases t; exact ⟨_, rfl, h⟩
theorem LR.two_inv {v u : Value} {l : List Value} (hl : LR φ [v, u] l) : ∃ v' u', l = [v', u'] ∧ VR φ v v' ∧ VR φ u u' := by
 cases hl with | cons h t => cases t with | cons k t => cases t; exact ⟨_, _, rfl, h, k⟩
theorem sim_builtin (r : R w0 φ h w) {b : Builtin} {Ts : List TypeId} {vs vs' : List Value} {ty : TypeId} {cs : Array Bool} {l : List (AN × AH)} (hs : aBuiltin P b Ts vs h = some l) (hv : LR φ vs vs') :
   Sim w0 P φ h w (builtin b ⟨Ts⟩ ty cs ⟨vs'⟩) l := by
 unfold aBuiltin at hs
 split at hs
 · obtain ⟨v', rfl, hx⟩ := hv.one_inv
   exact .ov hs (fun v hv => sim_len r hv hx)
 · obtain ⟨v', rfl, hx⟩ := hv.one_inv
   exact .ov hs (fun v hv => sim_cap r hv hx)
 · obtain ⟨v', u', rfl, hx, hy⟩ := hv.two_inv
   exact .ovh hs (fun v h' hv => sim_append r hv hx hy)
 · obtain ⟨v', u', rfl, hx, hy⟩ := hv.two_inv
   exact .ovh hs (fun v h' hv => sim_copy r hv hx hy)
 · obtain ⟨v', u', rfl, hx, hy⟩ := hv.two_inv
   exact .oun hs (fun h' hv => sim_delete r hv hx hy)
 · obtain ⟨v', rfl, hx⟩ := hv.one_inv
   exact .oun hs (fun h' hv => sim_clear r hv hx)
 · split at hs
   · obtain rfl := all_same hv ‹_›
     exact .ov hs (fun v hv => sim_pure r hv)
   · cases hs
 · split at hs
   · obtain rfl := all_same hv ‹_›
     exact .ov hs (fun v hv => sim_pure r hv)
   · cases hs
 · obtain ⟨v', rfl, hx⟩ := hv.one_inv
   exact .ov hs (fun v hv => sim_sdata r hv hx)
 · obtain ⟨v', u', rfl, hx, hy⟩ := hv.two_inv
   exact .ovh hs (fun v h' hv => sim_ustr r hv hx hy)
 · cases hs
end
end Go.X
namespace Go.X
noncomputable section
open Go Go.RowKit
variable {w0 w w' : World} {φ φ' : Phi} {h h' : AH} {P : Program} {n : Nat} {t : T Value}
inductive Mk where
 | ptr
 | sl (l c : Nat)
 | mp
def Mk.val : Mk → Nat → Value
 | .ptr, b => .pointer (some ⟨b, 0, none⟩)
 | .sl l c, b => .slice (some ⟨b, 0, none⟩) l c
 | .mp, b => .map (some b)
inductive Al where
 | cells (l : List Value)
 | map
 | tcells (ty : TypeId) (l : List Value)
def Al.obj : Al → AObj
 | .cells l => .cells (T.fill l 0 .e) l.length 0 false
 | .map => .map [] 0 false
 | .tcells ty l => .tcells ty (T.fill l 0 .e) l.length 0
def Al.im (c : Nat) : Al → Im
 | .cells l => ⟨c, 0, l.length, l.length, 0⟩
 | .map => ⟨c, 0, 0, 0, 0⟩
 | .tcells _ l => ⟨c, 0, l.length, l.length, 0⟩
def Al.ok : Al → Mk → Bool
 | .cells _, .ptr => true
 | .cells _, .sl _ c => decide (c < open_)
 | .map, .mp => true
 | .tcells _ _, .ptr => true
 | _, _ => false
def isBld (P : Program) (el : TypeId) : Bool := match P.underlying el with
 | some (.struct fs) => (match fs.toList with
  | [a, _] => a.name == "addr"
  | _ => false)
 | _ => false
def isMapT (P : Program) (T : TypeId) : Bool := match P.underlying T with | some (.map _ _) => true | _ => false
def aAl0 (P : Program) (n : Nat) (t : T Value) : Op → Option (Al × Mk)
 | .alloc el => match zeroOf P el with
  | some z => (match isBld P el with
   | true => some (.tcells el (cellsL z), .ptr)
   | false => some (.cells (cellsL z), .ptr))
  | none => none
 | .box _ x => match aO n t x with | some v => some (.cells (cellsL v), .ptr) | none => none
 | .buildSlice T len ⟨ps⟩ => match P.underlying T, aPs n t ps with
  | some (.slice el), some parts => (match szOf P el, zeroOf P el with
   | some k, some z => if len * k ≤ 16777216 ∧ (cellsL z).length = k then (match aFill (fun i => some (i * k, k)) (zrep len (cellsL z)) parts with
    | some l => some (.cells l, .sl len len)
    | none => none) else none
   | _, _ => none)
  | _, _ => none
 | .makeSlice T l c => match aO n t l, aO n t c with
  | some (.int _ l), some (.int _ c) => (match P.underlying T with
   | some (.slice el) => (match szOf P el, byOf P el, zeroOf P el with
    | some k, some by_, some z => if 0 ≤ l ∧ l ≤ c ∧ c * (by_ + 1) < 1099511627776 ∧ (cellsL z).length = k then some (.cells (zrep c.toNat (cellsL z)), .sl l.toNat c.toNat) else none
    | _, _, _ => none)
   | _ => none)
  | _, _ => none
 | .makeMap T r => match r with
  | none => some (.map, .mp)
  | some x => (match aO n t x with
   | some (.int _ _) => if isMapT P T then some (.map, .mp) else none
   | _ => none)
 | _ => none
def aAl (P : Program) (n : Nat) (t : T Value) (o : Op) : Option (Al × Mk) := match aAl0 P n t o with
 | some (al, mk) => if al.ok mk then some (al, mk) else none
 | none => none
def AlR (φ : Phi) : Al → Obj → Prop
 | .cells l, x => ∃ l' el, x = .cells ⟨l'⟩ el (0, 0) ∧ LR φ l l'
 | .map, x => x = .map #[] 0
 | .tcells ty l, x => ∃ l', x = .cells ⟨l'⟩ ty (0, 0) ∧ LR φ l l'
theorem AlR.or {al : Al} {x : Obj} {c : Nat} {mk : Mk} (hk : al.ok mk = true) (ha : AlR φ al x) (le : Le φ φ') (hw : w.heap[c]? = some x) : OR φ' (al.im c) w al.obj := by
 cases al with
 | cells l =>
  obtain ⟨l', el, rfl, hl⟩ := ha
  have hle : T.Ok (l.length) := trivial
  refine ⟨rfl, rfl, hle, ⟨l'⟩, el, ⟨(0, 0), hw, fun _ => rfl, fun k _ => by simp [World.frozen?, Al.im, hw]⟩, by simp [Al.im, hl.length], by simp [Al.im], fun k hk => ?_⟩
  obtain ⟨v', h1, h2⟩ := hl.get (List.getElem?_eq_getElem hk)
  refine ⟨l[k], v', ?_, by simpa [Al.im] using h1, h2.mono le⟩
  rw [T.get_fill, if_pos (by omega)]
  simp [hk]
 | map => exact ⟨#[], by rw [show x = .map #[] 0 from ha] at hw; exact hw, .nil⟩
 | tcells ty l =>
  obtain ⟨l', rfl, hl⟩ := ha
  refine ⟨rfl, rfl, rfl, ⟨l'⟩, hw, by simp [Al.im, hl.length], ⟨Nat.le_refl _, fun _ => rfl⟩, fun k hk => ?_⟩
  obtain ⟨v', h1, h2⟩ := hl.get (List.getElem?_eq_getElem hk)
  refine ⟨l[k], v', ?_, by simpa using h1, h2.mono le⟩
  rw [T.get_fill, if_pos (by omega)]
  simp [hk]
theorem Mk.rel {al : Al} {mk : Mk} {b c : Nat} (hk : al.ok mk = true) (hb : φ b = some (al.im c)) : VR φ (mk.val b) (mk.val c) := by
 cases al with
 | cells l => cases mk with
  | ptr => exact .ptr (a := ⟨b, 0, none⟩) _ hb rfl
  | sl l0 c0 =>
   simp only [Al.ok, decide_eq_true_eq] at hk
   exact .slice (a := ⟨b, 0, none⟩) _ hb rfl (by omega)
  | mp => simp [Al.ok] at hk
 | map => cases mk with
  | mp => exact .map _ hb
  | _ => simp [Al.ok] at hk
 | tcells ty l => cases mk with
  | ptr => exact .ptr (a := ⟨b, 0, none⟩) _ hb rfl
  | _ => simp [Al.ok] at hk
theorem al0_run {a : Act} (f : FR φ n t a.tmps) {o : Oper} {al : Al} {mk : Mk} (hs : aAl0 P n t o.op = some (al, mk)) :
  ∃ x, AlR φ al x ∧ ∀ w : World, (execOp a.eval o).run P w = .ok (.value (mk.val w.heap.size)) (w.alloc x) := by
 cases hop : o.op with
 | alloc el =>
  rw [hop] at hs
  simp only [aAl0] at hs
  split at hs
  · rename_i z hz
    have hz2 := (rZero hz default).2
    have hrun : ∀ w : World, (execOp a.eval o).run P w = .ok (.value (Mk.ptr.val w.heap.size)) (w.alloc (.cells ⟨cellsL z⟩ el (0, 0))) := by
      intro w
      have hz1 := (rZero hz w).1
      simp only [execOp, hop, Instr.alloc, Sem.run_bind, hz1, Result.andThen_ok, newVar, newRow, run_newObj_alloc, Sem.run_pure, cells_eq, Mk.val]
    split at hs
    · cases hs
      exact ⟨.cells ⟨cellsL z⟩ el (0, 0), ⟨_, rfl, (pfv_refl φ hz2).cells⟩, hrun⟩
    · cases hs
      exact ⟨.cells ⟨cellsL z⟩ el (0, 0), ⟨_, _, rfl, (pfv_refl φ hz2).cells⟩, hrun⟩
  · cases hs
 | box el x =>
  rw [hop] at hs
  simp only [aAl0] at hs
  split at hs
  · rename_i v hv
    cases hs
    refine ⟨.cells ⟨cellsL (a.eval x)⟩ el (0, 0), ⟨_, _, rfl, (aO_ok f hv).cells⟩, fun w => ?_⟩
    simp only [execOp, hop, Instr.box, newVar, newRow, Sem.run_bind, run_newObj_alloc, Result.andThen_ok, Sem.run_pure, cells_eq, Mk.val]
  · cases hs
 | buildSlice T len parts =>
  obtain ⟨ps⟩ := parts
  rw [hop] at hs
  simp only [aAl0] at hs
  split at hs
  · rename_i el parts hu hps
    split at hs
    · rename_i k z hk hz
      split at hs
      · rename_i hc
        split at hs
        · rename_i l hl
          cases hs
          have hz2 := (rZero hz default).2
          have hpr := aPs_ok f hps
          obtain ⟨out', h1, h2⟩ := fill_ok parts _ hl (zrep_rel (pfv_refl φ hz2).cells len) hpr.two
          refine ⟨.cells ⟨out'⟩ el (0, 0), ⟨_, _, rfl, h2⟩, fun w => ?_⟩
          have hz1 := (rZero hz w).1
          have hmap : ((⟨ps⟩ : Array (Nat × Operand)).map fun (i, x) => (i, a.eval x)) = ⟨ps.map fun p => (p.1, a.eval p.2)⟩ := by
           apply Array.ext'; simp
          simp only [execOp, hop, hmap]
          have hrun : (Instr.buildSlice T len ⟨ps.map fun p => (p.1, a.eval p.2)⟩).run P w = .ok (.slice (some ⟨w.heap.size, 0, none⟩) len len) (w.alloc (.cells ⟨out'⟩ el (0, 0))) := by
           unfold Instr.buildSlice
           simp only [Sem.run_bind, run_underlying hu, Result.andThen_ok, rSz hk]
           rw [if_neg (by omega)]
           by_cases hn : len * k = 0
           · have ez : zrep len (cellsL z) = [] := List.eq_nil_of_length_eq_zero (by rw [zrep_len, hc.2]; exact hn)
             have er : (Array.range (len * k)).map (fun i => (#[] : Array Value)[i % (#[] : Array Value).size]!) = ⟨[]⟩ := by
              rw [hn]
              have : Array.range 0 = (#[] : Array Nat) := Array.eq_empty_of_size_eq_zero (by simp)
              rw [this]; simp
             rw [ez] at h1
             rw [if_pos hn]
             simp only [Sem.run_pure, Sem.run_bind, Result.andThen_ok, er, h1, newRow, run_newObj_alloc]
           · rw [if_neg hn]
             simp only [Sem.run_pure, Sem.run_bind, Result.andThen_ok, hz1]
             rw [zarr (by rw [hc.2]), h1]
             simp only [Sem.run_pure, Sem.run_bind, Result.andThen_ok, newRow, run_newObj_alloc]
          rw [Sem.run_bind, hrun]; rfl
        · cases hs
      · cases hs
    · cases hs
  · cases hs
 | makeSlice T lx cx =>
  rw [hop] at hs
  simp only [aAl0] at hs
  split at hs
  · rename_i k1 l k2 c hl hc
    have el := (aO_ok f hl).int_inv
    have ec := (aO_ok f hc).int_inv
    split at hs
    · rename_i el' hu
      split at hs
      · rename_i k by_ z hk hb hz
        split at hs
        · rename_i hcond
          cases hs
          obtain ⟨h1, h2, h3, h4⟩ := hcond
          have hz2 := (rZero hz default).2
          obtain ⟨i, hi, hisz⟩ := rI' hk
          have hib : i.bytes = by_ := by unfold byOf at hb; rw [hi] at hb; simpa using hb
          have hcc : c < 1099511627776 := by
           have : c * 1 ≤ c * (by_ + 1 : Int) := Int.mul_le_mul_of_nonneg_left (by omega) (by omega)
           omega
          have hcb : (by_ : Int) * c ≤ 281474976710656 := by
           have : c * (by_ + 1 : Int) = by_ * c + c := by rw [Int.mul_add, Int.mul_comm, Int.mul_one]
           omega
          have hroom : ¬ (140737488355328 < c.toNat * by_) := by
           have e : ((c.toNat * by_ : Nat) : Int) = c * by_ := by push_cast; rw [Int.toNat_of_nonneg (by omega)]
           have : c * (by_ + 1 : Int) = c * by_ + c := by rw [Int.mul_add, Int.mul_one]
           omega
          refine ⟨.cells ⟨zrep c.toNat (cellsL z)⟩ el' (0, 0), ⟨_, _, rfl, zrep_rel (pfv_refl φ hz2).cells _⟩, fun w => ?_⟩
          have hz1 := (rZero hz w).1
          have hrun : (Instr.makeSlice T (.int k1 l) (.int k2 c)).run P w = .ok (.slice (some ⟨w.heap.size, 0, none⟩) l.toNat c.toNat) (w.alloc (.cells ⟨zrep c.toNat (cellsL z)⟩ el' (0, 0))) := by
           unfold Instr.makeSlice
           simp only [Sem.run_bind, run_underlying hu, Result.andThen_ok, asInt, asIntOf, Sem.run_pure, rI hi, wrap64 (show 0 ≤ c by omega) hcc, wrap64 h1 (show l < 1099511627776 by omega)]
           have t1 : (decide (c < 0) || decide ((i.bytes : Int) * c > 2 ^ 48)) = false := by
             rw [hib]; simp only [Bool.or_eq_false_iff, decide_eq_false_iff_not]; omega
           simp only [t1, Bool.false_or]
           rw [if_neg (by simp; omega)]
           simp only [askRoom, roomBytes, hib]
           rw [if_neg (by omega)]
           simp only [Sem.run_pure, Sem.run_bind, Result.andThen_ok, rSz hk]
           by_cases hn : c.toNat * k = 0
           · have ez : zrep c.toNat (cellsL z) = [] := List.eq_nil_of_length_eq_zero (by rw [zrep_len, h4]; exact hn)
             rw [if_pos hn]
             have er : Array.range 0 = (#[] : Array Nat) := Array.eq_empty_of_size_eq_zero (by simp)
             simp [newRow, ez, hn, er]
           · rw [if_neg hn]
             simp only [Sem.run_bind, hz1, Sem.run_pure, Result.andThen_ok, newRow, run_newObj_alloc]
             rw [zarr (by rw [h4])]
          simp only [execOp, hop, el, ec]
          rw [Sem.run_bind, hrun]; rfl
        · cases hs
      · cases hs
    · cases hs
  · cases hs
 | makeMap T rr =>
  rw [hop] at hs
  simp only [aAl0] at hs
  cases rr with
  | none =>
    cases hs
    refine ⟨.map #[] 0, rfl, fun w => ?_⟩
    simp [execOp, hop, Instr.makeMap, Mk.val]
  | some x =>
    dsimp only at hs
    split at hs
    · rename_i kk q hx
      split at hs
      · rename_i hm
        cases hs
        have ex := (aO_ok f hx).int_inv
        unfold isMapT at hm
        split at hm
        · rename_i k el hu
          refine ⟨.map #[] 0, rfl, fun w => ?_⟩
          simp [execOp, hop, Instr.makeMap, Mk.val, ex, run_underlying hu, asInt, asIntOf]
        · cases hm
      · cases hs
    · cases hs
 | _ => rw [hop] at hs; simp [aAl0] at hs
theorem al_run {a : Act} (f : FR φ n t a.tmps) {o : Oper} {al : Al} {mk : Mk} (hs : aAl P n t o.op = some (al, mk)) :
   al.ok mk = true ∧ ∃ x, AlR φ al x ∧ ∀ w : World, (execOp a.eval o).run P w = .ok (.value (mk.val w.heap.size)) (w.alloc x) := by
 unfold aAl at hs
 split at hs
 · rename_i al0 mk0 h0
   split at hs
   · rename_i hk; cases hs; exact ⟨hk, al0_run f h0⟩
   · cases hs
 · cases hs
def AH.newAl (h : AH) (al : Al) : Option (Nat × AH) := if true = true then some (h.next, ⟨h.m.set h.next (some al.obj), h.next + 1⟩) else none
def aNew (x : Option (Al × Mk)) (h : AH) : Outs := match x with
 | some (al, mk) => (match h.newAl al with
  | some (b, h') => some [(.val (mk.val b), h')]
  | none => none)
 | none => none
end
end Go.X
namespace Go.X
noncomputable section
open Go Go.RowKit
variable {w0 w w' : World} {φ φ' : Phi} {h h' : AH} {P : Program}
theorem R.grown (r : R w0 φ h w) (b : Below w.heap.size w w') : R w0 φ h w' := by
 have e : ∀ {k i}, φ k = some i → w'.heap[i.c]? = w.heap[i.c]? := fun hk => b.block _ (r.lt _ _ hk).1
 have hs : w.heap.size ≤ w'.heap.size := b.size
 have hb := r.below
 refine ⟨fun k i o hi ho => (r.dom k i o hi ho).world (e hi), r.low, r.inj, fun k i hi => ⟨Nat.lt_of_lt_of_le (r.lt k i hi).1 hs, (r.lt k i hi).2⟩, r.nx, ?_⟩
 exact hb.trans (b.mono hb.size)
def byteVals (b : ByteArray) : List Value := b.data.toList.map fun c => Value.int .u8 c.toNat
def aS2B (P : Program) (s d : TypeId) (x : Value) (h : AH) : Outs := match P.underlying s, P.underlying d, x with
 | some _, some (.slice e), .string b => (match P.underlying e with
  | some (.int .u8) => some [(.val (.slice (some ⟨h.next, 0, none⟩) (byteVals b).length open_), ⟨h.m.set h.next (some (.cells (T.fill (byteVals b) 0 .e) (byteVals b).length 1 true)), h.next + 1⟩)]
  | _ => none)
 | _, _, _ => none
theorem bytes_below (w : World) (e : TypeId) (b : ByteArray) : Below w.heap.size w (Lib.bytesWorld w e b) :=
 ⟨rfl, rfl, rfl, by rw [Lib.bytesWorld_size]; exact Nat.le_succ _, fun k hk => Lib.bytesWorld_at_old w e b k hk⟩
theorem byteVals_length (b : ByteArray) : (byteVals b).length = b.size := by
 unfold byteVals
 rw [List.length_map, Array.length_toList]; rfl
theorem sim_s2b (r : R w0 φ h w) {s d : TypeId} {x x' : Value} {l : List (AN × AH)} (hs : aS2B P s d x h = some l) (hx : VR φ x x') : Sim w0 P φ h w (do pure (.value (← convert s d x'))) l := by
 unfold aS2B at hs
 split at hs
 · rename_i u e b hu hd
   split at hs
   · rename_i he
     cases hs
     cases hx
     have hrun := Lib.run_convert_string_bytes w s d e b hu hd he
     have r1 := r.grown (bytes_below w e b)
     have hge : b.size ≤ grownCap w b.size 0 e := grownCap_ge w b.size 0 e
     have hcs : (Lib.bytesCells w e b).size = grownCap w b.size 0 e := by
       simp only [Lib.bytesCells, Array.size_append, Array.size_map, Array.size_replicate]
       show b.size + _ = _
       omega
     have hlen := byteVals_length b
     have hfz : ∀ k, k < (byteVals b).length → (Lib.bytesWorld w e b).frozen? ⟨w.heap.size, k + 0, none⟩ = false := by
       intro k hk
       simp only [World.frozen?, Lib.bytesWorld_at_new]
       simp
       omega
     have hcell : ∀ k, k < (byteVals b).length → ∃ v v', (T.fill (byteVals b) 0 .e).get k = some v ∧ (Lib.bytesCells w e b)[k + 0]? = some v' ∧ ∀ φ', VR φ' v v' := by
       intro k hk
       have hk2 : k < b.data.size := by rw [← show b.size = b.data.size from rfl]; omega
       refine ⟨Value.int .u8 (b.data.toList[k]'(by simpa using hk2)).toNat, Value.int .u8 (b.data.toList[k]'(by simpa using hk2)).toNat, ?_, ?_, fun _ => .int _ _⟩
       · rw [T.get_fill, if_pos (by omega)]
         unfold byteVals
         simp
         exact ⟨_, Array.getElem?_eq_getElem hk2, rfl⟩
       · simp only [Nat.add_zero, Lib.bytesCells]
         rw [Array.getElem?_append_left (by simpa using hk2)]
         simp
         exact ⟨_, Array.getElem?_eq_getElem hk2, rfl⟩
     obtain ⟨φ', nx, hb, r2⟩ := r1.bind (i := ⟨w.heap.size, 0, (byteVals b).length, (Lib.bytesCells w e b).size, 1⟩) (o := .cells (T.fill (byteVals b) 0 .e) (byteVals b).length 1 true)
       (by rw [Lib.bytesWorld_size]; exact Nat.lt_succ_self _) r.nx (fun k j o hj ho he2 => by have := (r.lt k j hj).1; simp only at he2; omega) r.below.size
       (fun φ' le => ⟨rfl, rfl, trivial, Lib.bytesCells w e b, e, ⟨_, Lib.bytesWorld_at_new w e b, (fun e2 => by cases e2), hfz⟩, rfl, by rw [hcs]; simp only [Nat.add_zero]; omega, fun k hk => by
         obtain ⟨v, v', h1, h2, h3⟩ := hcell k hk
         exact ⟨v, v', h1, h2, h3 φ'⟩⟩)
     refine ⟨_, _, List.mem_singleton.2 rfl, .value (.slice (some ⟨w.heap.size, 0, none⟩) b.size (grownCap w b.size 0 e)), _, φ', ?_, nx, r2, .val ?_⟩
     · rw [Sem.run_bind, hrun]; rfl
     · rw [hlen]
       have h1 : (byteVals b).length ≤ 0 + grownCap w b.size 0 e * 1 := by omega
       have h2 : 0 + 0 + grownCap w b.size 0 e * 1 ≤ (Lib.bytesCells w e b).size := by omega
       exact VR.opens (i := ⟨w.heap.size, 0, (byteVals b).length, (Lib.bytesCells w e b).size, 1⟩) hb rfl Nat.one_pos hge h1 h2 (fun _ => rfl)
   · cases hs
 · cases hs
end
end Go.X
namespace Go.X
noncomputable section
open Go Go.RowKit
variable {w0 w w' : World} {φ φ' : Phi} {h h' : AH} {P : Program}
def sameBs : List UInt8 → List UInt8 → Bool
 | [], [] => true
 | a :: l, b :: m => Nat.beq a.toNat b.toNat && sameBs l m
 | _, _ => false
theorem sameBs_ok : ∀ {l m : List UInt8}, sameBs l m = true → l = m
 | [], [], _ => rfl
 | a :: l, b :: m, h => by
  unfold sameBs at h
  rw [Bool.and_eq_true] at h
  rw [UInt8.toNat_inj.1 (Nat.eq_of_beq_eq_true h.1), sameBs_ok h.2]
 | [], _ :: _, h => by cases h
 | _ :: _, [], h => by cases h
theorem sameBs_refl : ∀ (l : List UInt8), sameBs l l = true
 | [] => rfl
 | a :: l => by unfold sameBs; rw [Nat.beq_refl, sameBs_refl l]; rfl
def sameB (a b : ByteArray) : Bool := sameBs a.data.toList b.data.toList
theorem sameB_iff {a b : ByteArray} : sameB a b = true ↔ a = b := by
 constructor
 · intro h
   have := sameBs_ok h
   obtain ⟨⟨a⟩⟩ := a
   obtain ⟨⟨b⟩⟩ := b
   have : a = b := this
   rw [this]
 · intro h
   subst h
   exact sameBs_refl _
def bagVals (k : ByteArray) (es : List (ByteArray × Value)) : List Value := (es.filter fun e => sameB e.1 k).map (·.2)
abbrev pOf (e : Value × Value × Nat) : Value × Value := (e.1, e.2.1)
abbrev qOf (e : ByteArray × Value) : Value × Value := (Value.string e.1, e.2)
theorem ba_beq (a b : ByteArray) : (a == b) = true ↔ a = b := by
 cases a; cases b
 show ByteArray.beq _ _ = true ↔ _
 unfold ByteArray.beq
 simp
theorem find_bag {k : ByteArray} : ∀ {es : List (Value × Value × Nat)} {L : List MapEntry}, ER φ es L → (∀ e, e ∈ es → ∃ a, e.1 = .string a) → ∀ i,
  ((∀ e, e ∈ es → e.1 ≠ .string k) ∧ Instr.findNow .string (.string k) L i = some none) ∨
  ∃ j e e', es[j]? = some e ∧ L[j]? = some e' ∧ e.1 = .string k ∧ VR φ e.2.1 e'.val ∧ e'.key = .string k ∧ Instr.findNow .string (.string k) L i = some (some (i + j, e'.val)) := by
 intro es L he
 induction he with
 | nil => intro _ i; exact .inl ⟨fun e h => (by cases h), rfl⟩
 | @cons key v key' v' b l l' hk hv t ih =>
  intro hs i
  obtain ⟨a, ha⟩ := hs _ List.mem_cons_self
  have ha : key = .string a := ha
  subst ha
  cases hk
  by_cases e : k = a
  · subst e
    refine .inr ⟨0, _, _, rfl, rfl, rfl, hv, rfl, ?_⟩
    have hbq : (k == k) = true := (ba_beq k k).2 rfl
    simp only [Instr.findNow, Instr.sameNow, hbq, Nat.add_zero]
  · have hne : (k == a) = false := by
      cases hb : (k == a) with
      | false => rfl
      | true => exact (e ((ba_beq k a).1 hb)).elim
    rcases ih (fun x hx => hs x (List.mem_cons_of_mem _ hx)) (i + 1) with ⟨h1, h2⟩ | ⟨j, e1, e2, h1, h2, h3, h4, h5, h6⟩
    · refine .inl ⟨fun x hx => ?_, ?_⟩
      · rcases List.mem_cons.1 hx with rfl | hx
        · intro h; cases h; exact e rfl
        · exact h1 x hx
      · simp only [Instr.findNow, Instr.sameNow, hne]; exact h2
    · refine .inr ⟨j + 1, e1, e2, h1, h2, h3, h4, h5, ?_⟩
      simp only [Instr.findNow, Instr.sameNow, hne]
      rw [h6]; congr 3; omega
theorem bag_str {es : List (Value × Value × Nat)} {bs : List (ByteArray × Value)} (hp : (es.map pOf).Perm (bs.map qOf)) : ∀ e, e ∈ es → ∃ a, e.1 = .string a := by
 intro e he
 have h1 := hp.mem_iff.1 (List.mem_map.2 ⟨e, he, rfl⟩)
 obtain ⟨x, _, h2⟩ := List.mem_map.1 h1
 exact ⟨x.1, (congrArg Prod.fst h2).symm⟩
theorem bag_one {es : List (Value × Value × Nat)} {bs : List (ByteArray × Value)} (hp : (es.map pOf).Perm (bs.map qOf)) {k : ByteArray} {v : Value} (hv : bagVals k bs = [v]) {e : Value × Value × Nat} (he : e ∈ es) (hk : e.1 = .string k) : e.2.1 = v := by
 have h1 := hp.mem_iff.1 (List.mem_map.2 ⟨e, he, rfl⟩)
 obtain ⟨x, hx, h2⟩ := List.mem_map.1 h1
 have h3 : x.1 = k := by
  have := (congrArg Prod.fst h2).trans hk
  cases this; rfl
 have h4 : x.2 ∈ bagVals k bs := List.mem_map.2 ⟨x, List.mem_filter.2 ⟨hx, sameB_iff.2 h3⟩, rfl⟩
 rw [hv, List.mem_singleton] at h4
 rw [← h4]
 exact (congrArg Prod.snd h2).symm
theorem bag_has {es : List (Value × Value × Nat)} {bs : List (ByteArray × Value)} (hp : (es.map pOf).Perm (bs.map qOf)) {k : ByteArray} {v : Value} (hv : bagVals k bs = [v]) : ¬ ∀ e, e ∈ es → e.1 ≠ .string k := by
 intro hno
 have h1 : v ∈ bagVals k bs := by rw [hv]; exact List.mem_singleton.2 rfl
 obtain ⟨x, hx, rfl⟩ := List.mem_map.1 h1
 obtain ⟨h2, h3⟩ := List.mem_filter.1 hx
 have h4 := hp.mem_iff.2 (List.mem_map.2 ⟨x, h2, rfl⟩)
 obtain ⟨e, he, h5⟩ := List.mem_map.1 h4
 exact hno e he ((congrArg Prod.fst h5).trans (by show Value.string x.1 = _; rw [show x.1 = k from sameB_iff.1 h3]))
theorem bag_none {es : List (Value × Value × Nat)} {bs : List (ByteArray × Value)} (hp : (es.map pOf).Perm (bs.map qOf)) {k : ByteArray} (hv : bagVals k bs = []) : ∀ e, e ∈ es → e.1 ≠ .string k := by
 intro e he hk
 have h1 := hp.mem_iff.1 (List.mem_map.2 ⟨e, he, rfl⟩)
 obtain ⟨x, hx, h2⟩ := List.mem_map.1 h1
 have h3 : x.1 = k := by
  have := (congrArg Prod.fst h2).trans hk
  cases this; rfl
 have h4 : x.2 ∈ bagVals k bs := List.mem_map.2 ⟨x, List.mem_filter.2 ⟨hx, sameB_iff.2 h3⟩, rfl⟩
 rw [hv] at h4; cases h4
def aLookupB (P : Program) (T : TypeId) (x k : Value) (c : Bool) (h : AH) : Option Value := match x, k with
 | .map (some r), .string s => (match h.m.get r with
  | some (.bag es) => (match P.underlying T with
   | some (.map kt el) => (match P.underlying kt with
    | some .string => (match aCheckKey P es.isEmpty kt (.string s), bagVals s es with
     | true, [v] => some (tupOk c v true)
     | true, [] => (match zeroOf P el with
      | some z => some (tupOk c z false)
      | none => none)
     | _, _ => none)
    | _ => none)
   | _ => none)
  | _ => none)
 | _, _ => none
theorem R.bag (r : R w0 φ h w) {b : Nat} {i : Im} {bs : List (ByteArray × Value)} (hi : φ b = some i) (ho : h.m.get b = some (.bag bs)) :
  ∃ arr clock es, w.heap[i.c]? = some (.map arr clock) ∧ (getObj i.c).run P w = .ok (.map arr clock) w ∧ ER φ es arr.toList ∧ (es.map pOf).Perm (bs.map qOf) ∧ arr.isEmpty = bs.isEmpty := by
 obtain ⟨arr, cl, es, h1, h2, h3⟩ := r.dom _ _ _ hi ho
 refine ⟨arr, cl, es, h1, by simp [getObj, Sem.run, h1], h2, h3, ?_⟩
 have hl : bs.length = arr.size := by
  have e1 := h3.length_eq
  rw [List.length_map, List.length_map] at e1
  rw [← e1, h2.length]; simp
 rw [Bool.eq_iff_iff, Array.isEmpty_iff_size_eq_zero, List.isEmpty_iff_length_eq_zero, hl]
theorem sim_lookupB (r : R w0 φ h w) {T : TypeId} {x k x' k' v : Value} {c : Bool} (hs : aLookupB P T x k c h = some v) (hx : VR φ x x') (hk : VR φ k k') : SimV w0 P φ h w (Instr.lookup T x' k' c) v h := by
 unfold aLookupB at hs
 split at hs
 · rename_i b s
   cases hk
   obtain ⟨i, hi, rfl⟩ := hx.map_inv
   split at hs
   · rename_i bs ho
     obtain ⟨arr, cl, es, g1, g2, g3, g4, g5⟩ := r.bag (P := P) hi ho
     split at hs
     · rename_i kt el hu
       split at hs
       · rename_i hkt
         have hfk : ∀ {o : Option (Nat × Value)}, Instr.findNow .string (.string s) arr.toList 0 = some o → (Instr.findKey kt (.string s) arr.toList).run P w = .ok o w := by
           intro o ho
           unfold Instr.findKey
           simp only [Sem.run_bind, run_underlying hkt, Result.andThen_ok, ho]
           rfl
         split at hs
         · rename_i u hck hv
           cases hs
           have hc := checkKey_ok hck w
           rw [← g5] at hc
           rcases find_bag (k := s) g3 (bag_str g4) 0 with ⟨h1, _⟩ | ⟨j, e, e', h1, h2, h3, h4, h5, h6⟩
           · exact (bag_has g4 hv h1).elim
           · have hev := bag_one g4 hv (List.mem_of_getElem? h1) h3
             refine .here r (v' := tupOk c e'.val true) ?_ (tupOk_rel (hev ▸ h4))
             unfold Instr.lookup
             simp only [Sem.run_bind, run_underlying hu, Result.andThen_ok, g2, hc, hfk h6, Sem.run_pure]
             simp [tupOk]
         · rename_i hck hv
           split at hs
           · rename_i z hz
             cases hs
             obtain ⟨hz1, hz2⟩ := rZero hz w
             have hc := checkKey_ok hck w
             rw [← g5] at hc
             rcases find_bag (k := s) g3 (bag_str g4) 0 with ⟨_, h6⟩ | ⟨j, e, e', h1, h2, h3, h4, h5, h6⟩
             · refine .here r (v' := tupOk c z false) ?_ (tupOk_rel (pfv_refl φ hz2))
               unfold Instr.lookup
               simp only [Sem.run_bind, run_underlying hu, Result.andThen_ok, g2, hc, hfk h6, Sem.run_pure]
               simp [tupOk, hz1]
             · exact (bag_none g4 hv e (List.mem_of_getElem? h1) h3).elim
           · cases hs
         · cases hs
       · cases hs
     · cases hs
   · cases hs
 · cases hs
def bagPut1 (k : ByteArray) (v : Value) (e : ByteArray × Value) : ByteArray × Value := match sameB e.1 k with
 | true => (k, v)
 | false => e
def bagPut (k : ByteArray) (v : Value) (es : List (ByteArray × Value)) : List (ByteArray × Value) := es.map (bagPut1 k v)
def aUpdateB (P : Program) (T : TypeId) (x k v : Value) (h : AH) : Option AH := match x, k with
 | .map (some r), .string s => (match h.m.get r with
  | some (.bag es) => (match P.underlying T with
   | some (.map kt _) => (match P.underlying kt with
    | some .string => (match aCheckKey P false kt (.string s) && stays (.string s) (.string s), bagVals s es with
     | true, [_] => some { h with m := h.m.set r (some (.bag (bagPut s v es))) }
     | _, _ => none)
    | _ => none)
   | _ => none)
  | _ => none)
 | _, _ => none
theorem two_count {α : Type} (p : α → Bool) : ∀ {l : List α} {i j : Nat} {x y : α}, l[i]? = some x → l[j]? = some y → p x = true → p y = true → i ≠ j → 2 ≤ l.countP p
 | [], i, j, x, y, hi, _, _, _, _ => by simp at hi
 | z :: l, i, j, x, y, hi, hj, hx, hy, hne => by
  have pos : ∀ {k : Nat} {u : α}, l[k]? = some u → p u = true → 1 ≤ l.countP p := fun hk hu => List.countP_pos_iff.2 ⟨_, List.mem_of_getElem? hk, hu⟩
  rw [List.countP_cons]
  cases i with
  | zero =>
   cases j with
   | zero => exact (hne rfl).elim
   | succ j =>
    simp only [List.getElem?_cons_zero, Option.some.injEq] at hi
    subst hi
    rw [if_pos hx]
    have := pos (by simpa using hj) hy
    omega
  | succ i =>
   cases j with
   | zero =>
    simp only [List.getElem?_cons_zero, Option.some.injEq] at hj
    subst hj
    rw [if_pos hy]
    have := pos (by simpa using hi) hx
    omega
   | succ j =>
    have := two_count p (by simpa using hi) (by simpa using hj) hx hy (fun e => hne (by rw [e]))
    omega
theorem setV_get (k v : Value) : ∀ (es : List (Value × Value × Nat)) (i j : Nat), (setV es i k v)[j]? = if j = i then (es[j]?).map (fun e => (k, v, e.2.2)) else es[j]?
 | [], i, j => by cases i <;> simp [setV]
 | (a, b, c) :: l, 0, j => by cases j <;> simp [setV]
 | e :: l, i + 1, j => by
  cases j with
  | zero => simp [setV]
  | succ j => simp only [setV, List.getElem?_cons_succ, setV_get k v l i j, Nat.add_right_cancel_iff]
theorem bag_setV {es : List (Value × Value × Nat)} {bs : List (ByteArray × Value)} (hp : (es.map pOf).Perm (bs.map qOf)) {k : ByteArray} {u v : Value} (hv : bagVals k bs = [u]) {j : Nat} {e : Value × Value × Nat} (hj : es[j]? = some e) (hk : e.1 = .string k) :
  ((setV es j (.string k) v).map pOf).Perm ((bagPut k v bs).map qOf) := by
 classical
 let is : Value × Value → Bool := fun x => decide (x.1 = .string k)
 let g : Value × Value → Value × Value := fun x => if x.1 = .string k then (.string k, v) else x
 have e1 : (bagPut k v bs).map qOf = (bs.map qOf).map g := by
  unfold bagPut
  rw [List.map_map, List.map_map]
  refine List.map_congr_left (fun x _ => ?_)
  show qOf (bagPut1 k v x) = g (qOf x)
  unfold bagPut1
  cases hb : sameB x.1 k with
  | true =>
    have := sameB_iff.1 hb
    show (Value.string k, v) = g (qOf x)
    exact (if_pos (by show Value.string x.1 = _; rw [this])).symm
  | false =>
    show qOf x = g (qOf x)
    refine (if_neg (fun h => ?_)).symm
    have h : Value.string x.1 = .string k := h
    cases h
    rw [sameB_iff.2 rfl] at hb; cases hb
 have cnt : (es.map pOf).countP is = 1 := by
  rw [hp.countP_eq, List.countP_map]
  have h1 : (bagVals k bs).length = 1 := by rw [hv]; rfl
  unfold bagVals at h1
  rw [List.length_map, ← List.countP_eq_length_filter] at h1
  rw [← h1]
  refine List.countP_congr (fun x _ => ?_)
  show decide (Value.string x.1 = .string k) = true ↔ sameB x.1 k = true
  rw [decide_eq_true_iff, sameB_iff]
  exact ⟨fun h => by cases h; rfl, fun h => by rw [h]⟩
 have e2 : (setV es j (.string k) v).map pOf = (es.map pOf).map g := by
  apply List.ext_getElem?
  intro i
  rw [List.getElem?_map, List.getElem?_map, List.getElem?_map, setV_get]
  by_cases hij : i = j
  · subst hij
    rw [if_pos rfl, hj]
    exact congrArg some (if_pos hk).symm
  · rw [if_neg hij]
    cases hi : es[i]? with
    | none => rfl
    | some x =>
     refine congrArg some (if_neg (fun h => ?_)).symm
     have h : x.1 = .string k := h
     have := two_count is (l := es.map pOf) (i := i) (j := j) (x := pOf x) (y := pOf e) (by rw [List.getElem?_map, hi]; rfl) (by rw [List.getElem?_map, hj]; rfl) (decide_eq_true h) (decide_eq_true hk) hij
     omega
 rw [e1, e2]
 exact hp.map g
theorem sim_updateB (r : R w0 φ h w) {T : TypeId} {x k v x' k' v' : Value} (hs : aUpdateB P T x k v h = some h') (hx : VR φ x x') (hk : VR φ k k') (hv : VR φ v v') :
   ∃ w', (Instr.mapUpdate T x' k' v').run P w = .ok () w' ∧ Nx φ φ h h' ∧ R w0 φ h' w' := by
 unfold aUpdateB at hs
 split at hs
 · rename_i b s
   cases hk
   obtain ⟨i, hi, rfl⟩ := hx.map_inv
   split at hs
   · rename_i bs ho
     obtain ⟨arr, cl, es, g1, g2, g3, g4, g5⟩ := r.bag (P := P) hi ho
     split at hs
     · rename_i kt el hu
       split at hs
       · rename_i hkt
         split at hs
         · rename_i u hck hbv
           cases hs
           rw [Bool.and_eq_true] at hck
           have hc := checkKey_ok hck.1 w
           rcases find_bag (k := s) g3 (bag_str g4) 0 with ⟨h1, _⟩ | ⟨j, e, e', h1, h2, h3, h4, h5, h6⟩
           · exact (bag_has g4 hbv h1).elim
           · have hfk : (Instr.findKey kt (.string s) arr.toList).run P w = .ok (some (0 + j, e'.val)) w := by
               unfold Instr.findKey
               simp only [Sem.run_bind, run_underlying hkt, Result.andThen_ok, h6]
               rfl
             have hold : ((arr[0 + j]?.map (·.key)).getD (.string s)) = .string s := by
               rw [Array.getElem?_toList] at h2
               rw [Nat.zero_add, h2]; exact h5
             have hset : (setObj i.c (.map (arr.modify (0 + j) fun e => { e with key := .string s, val := v' }) cl)).run P w = .ok () (putW w i.c (.map (arr.modify (0 + j) fun e => { e with key := .string s, val := v' }) cl)) := by
               simp [setObj, Sem.run, g1, putW]
             refine ⟨putW w i.c (.map (arr.modify (0 + j) fun e => { e with key := .string s, val := v' }) cl), ?_, Nx.put hi trivial, r.put hi ho rfl (fun w' hw' => ⟨_, cl, setV es (0 + j) (.string s) v, hw', ?_, ?_⟩)⟩
             · unfold Instr.mapUpdate
               simp only [Sem.run_bind, run_underlying hu, Result.andThen_ok, g2, hc, hfk, hold, stays_ok hck.2, hset]
             · rw [toList_modify]
               exact g3.setV (.string s) hv (0 + j)
             · rw [Nat.zero_add]
               exact bag_setV g4 hbv h1 h3
         · cases hs
       · cases hs
     · cases hs
   · cases hs
 · cases hs
def leBs : List UInt8 → List UInt8 → Bool
 | [], _ => true
 | _ :: _, [] => false
 | a :: l, b :: m => Nat.blt a.toNat b.toNat || (Nat.beq a.toNat b.toNat && leBs l m)
def insB (x : ByteArray × Value) : List (ByteArray × Value) → List (ByteArray × Value)
 | [] => [x]
 | y :: l => match leBs x.1.data.toList y.1.data.toList with
  | true => x :: y :: l
  | false => y :: insB x l
theorem insB_perm (x : ByteArray × Value) : ∀ l, (insB x l).Perm (x :: l)
 | [] => .refl _
 | y :: l => by
  unfold insB
  split
  · exact .refl _
  · exact ((insB_perm x l).cons y).trans (.swap x y l)
def bagOf : List (Value × Value × Nat) → Option (List (ByteArray × Value))
 | [] => some []
 | (.string a, v, _) :: l => (match bagOf l with
  | some m => some (insB (a, v) m)
  | none => none)
 | _ :: _ => none
theorem bagOf_perm : ∀ {es : List (Value × Value × Nat)} {m : List (ByteArray × Value)}, bagOf es = some m → (es.map pOf).Perm (m.map qOf)
 | [], m, h => by cases h; exact .refl _
 | (k, v, b) :: l, m, h => by
  unfold bagOf at h
  split at h
  · rename_i heq; cases heq
  · rename_i a v' b' l' heq
    cases heq
    split at h
    · rename_i m' hm
      cases h
      exact ((bagOf_perm hm).cons (Value.string a, v)).trans ((insB_perm (a, v) m').symm.map qOf)
    · cases h
  · cases h
def bag1 (o : Option AObj) : Option AObj := match o with
 | some (.map (e1 :: e2 :: es) _ false) => (match bagOf (e1 :: e2 :: es) with
  | some m => some (.bag m)
  | none => none)
 | _ => none
def bagN (lo : Nat) (k : Nat) (t : T AObj) : T AObj := Nat.rec (motive := fun _ => T AObj → T AObj) (fun t => t) (fun i ih t => match bag1 (t.get (Nat.add lo i)) with
 | some o => ih (t.set (Nat.add lo i) (some o))
 | none => ih t) k t
def bagH (lo : Nat) (h : AH) : AH := ⟨bagN lo (Nat.sub h.next lo) h.m, h.next⟩
end
end Go.X
namespace Go.X
noncomputable section
open Go Go.RowKit
variable {w0 w w' : World} {φ φ' : Phi} {h h' : AH} {P : Program} {n : Nat} {t : T Value}
def aEntryIt (it : Value) (h : AH) : Option Value := match it with
 | .pointer (some ⟨b, 0, none⟩) => (match h.m.get b with
  | some (.iter (some bm) _ seen st) => (match h.m.get bm, seen.getLast? with
   | some (.map es cl _), some q => if cl = st then (match es.find? (fun e => e.2.2 == q) with
    | some e => some (.tuple #[e.1, e.2.1])
    | none => none) else none
   | _, _ => none)
  | _ => none)
 | _ => none
theorem ER.find {es : List (Value × Value × Nat)} {l : List MapEntry} (he : ER φ es l) (q : Nat) {e : Value × Value × Nat} (hf : es.find? (fun e => e.2.2 == q) = some e) :
  ∃ e', l.find? (fun e => e.born == q) = some e' ∧ VR φ e.1 e'.key ∧ VR φ e.2.1 e'.val := by
 induction he with
 | nil => simp at hf
 | @cons k v k' v' b l l' hk hv _ ih =>
  simp only [List.find?_cons] at hf ⊢
  cases hb : (b == q) with
  | true => rw [hb] at hf; simp at hf; subst hf; exact ⟨_, rfl, hk, hv⟩
  | false => rw [hb] at hf; simpa using ih hf
theorem sim_entryIt (r : R w0 φ h w) {it it' v : Value} (hs : aEntryIt it h = some v) (hit : VR φ it it') : SimV w0 P φ h w (Instr.entry it') v h := by
 unfold aEntryIt at hs
 split at hs
 · rename_i b
   obtain ⟨i, hi, _, rfl⟩ := hit.ptr_inv
   have hi : φ b = some i := hi
   split at hs
   · rename_i bm since seen st ho
     obtain ⟨hd, m', hw, hm⟩ := r.dom _ _ _ hi ho
     obtain ⟨im, him, e⟩ := hm.map_inv
     cases e
     have hget : (getObj i.c).run P w = .ok (.mapIter (some im.c) since ⟨seen⟩ st) w := by simp [getObj, Sem.run, hw]
     rw [hd]
     split at hs
     · rename_i es cl ro q hom hq
       obtain ⟨arr, h1, _, h2⟩ := r.map (P := P) him hom
       split at hs
       · rename_i hcl
         split at hs
         · rename_i e hf
           cases hs
           obtain ⟨e', h3, h4, h5⟩ := h2.find q hf
           have h3' : arr.find? (fun e => e.born == q) = some e' := by rw [← Array.find?_toList]; exact h3
           have hq' : (⟨seen⟩ : Array Nat).back? = some q := by rw [← Array.getLast?_toList]; exact hq
           refine .here r (v' := .tuple #[e'.key, e'.val]) ?_ (.tuple' (.cons h4 (.cons h5 .nil)))
           subst hcl
           simp [Instr.entry, hget, hq', h1, h3']
         · cases hs
       · cases hs
     · cases hs
   · cases hs
 · cases hs
def aLookupX (P : Program) (T : TypeId) (x k : Value) (c : Bool) (h : AH) : Option Value := match aLookup P T x k c h with
 | some v => some v
 | none => aLookupB P T x k c h
theorem sim_lookupX (r : R w0 φ h w) {T : TypeId} {x k x' k' v : Value} {c : Bool} (hs : aLookupX P T x k c h = some v) (hx : VR φ x x') (hk : VR φ k k') : SimV w0 P φ h w (Instr.lookup T x' k' c) v h := by
 unfold aLookupX at hs
 split at hs
 · rename_i v hv
   cases hs
   exact sim_lookup r hv hx hk
 · exact sim_lookupB r hs hx hk
def aUpdateX (P : Program) (T : TypeId) (x k v : Value) (h : AH) : Option AH := match aUpdate P T x k v h with
 | some h => some h
 | none => aUpdateB P T x k v h
theorem sim_updateX (r : R w0 φ h w) {T : TypeId} {x k v x' k' v' : Value} (hs : aUpdateX P T x k v h = some h') (hx : VR φ x x') (hk : VR φ k k') (hv : VR φ v v') :
   ∃ w', (Instr.mapUpdate T x' k' v').run P w = .ok () w' ∧ Nx φ φ h h' ∧ R w0 φ h' w' := by
 unfold aUpdateX at hs
 split at hs
 · rename_i h2 hh
   cases hs
   exact sim_update r hh hx hk hv
 · exact sim_updateB r hs hx hk hv
def aVal0 (P : Program) (n : Nat) (t : T Value) (h : AH) : Op → Option Value
 | .move x => aO n t x
 | .assign x => aO n t x
 | .pick c a b => match aO n t c with
  | some (.bool q) => aO n t (if q then a else b)
  | _ => none
 | .build T ⟨ps⟩ => match aPs n t ps with | some l => aBuild P T l | none => none
 | .load T x => match aO n t x with | some (.pointer (some a)) => aLoad P T a h | _ => none
 | .nilCheck x => match aO n t x with | some v => if nilOk v then some v else none | none => none
 | .binOp op T x y _ => match aO n t x, aO n t y with | some a, some b => aBin P op T x y a b h | _, _ => none
 | .unOp op _ x => match aO n t x with | some v => aUn P op v | none => none
 | .convert s d x => match aO n t x with | some v => aConv P s d v h | none => none
 | .makeInterface T x => match aO n t x with | some v => aMkI P T v | none => none
 | .makeFunc (.func f) ⟨l⟩ ⟨m⟩ => match aOs n t l, aOs n t m with | some a, some b => some (.func (.func f) ⟨a⟩ ⟨b⟩) | _, _ => none
 | .slice T x lo hi mx => match aO n t x, aOO n t lo, aOO n t hi, aOO n t mx with | some v, some a, some b, some c => aSl P T v a b c h | _, _, _, _ => none
 | .fieldAddr s x f => match aO n t x with | some (.pointer (some a)) => aField P s a f | _ => none
 | .field T x f => match aO n t x with | some v => aFieldV P T v f | none => none
 | .indexAddr T x i => match aO n t x, aO n t i with | some v, some j => aIndex P T v j | _, _ => none
 | .index T x i => match aO n t x, aO n t i with | some v, some j => aIndexV P T v j | _, _ => none
 | .lookup T x k c => match aO n t x, aO n t k with | some v, some j => aLookupX P T v j c h | _, _ => none
 | .typeAssert x _ T c => match aO n t x with | some v => aAssert P v T c | none => none
 | .extract x i => match aO n t x with | some v => aExtract v i | none => none
 | .entry it => match aO n t it with | some v => aEntryIt v h | none => none
 | .call ⟨.builtin .len, ⟨[x]⟩, ⟨[T]⟩⟩ => match aO n t x with | some v => aLen P T v h | none => none
 | .call ⟨.builtin .cap, ⟨[x]⟩, ⟨[T]⟩⟩ => match aO n t x with | some v => aCap P T v | none => none
 | _ => none
theorem amap {α β : Type} (f : α → β) (l : List α) : Array.map f ⟨l⟩ = ⟨l.map f⟩ := by apply Array.ext'; simp
theorem exec_builtin {ρ : Operand → Value} {o : Oper} {b : Builtin} {args : List Operand} {Ts : Array TypeId} (hop : o.op = .call ⟨.builtin b, ⟨args⟩, Ts⟩) :
  ∃ cs, execOp ρ o = builtin b Ts o.type cs ⟨args.map ρ⟩ := by
 refine ⟨Array.map (fun x : Operand => match x with | Operand.const _ => true | _ => false) ⟨args⟩, ?_⟩
 simp only [execOp, hop, resolve]
 rw [amap ρ args]
 rfl
theorem simN0 (r : R w0 φ h w) {a : Act} (f : FR φ n t a.tmps) {o : Oper} {v : Value} (hs : aVal0 P n t h o.op = some v) :
  ∃ nx w' φ', (execOp a.eval o).run P w = .ok nx w' ∧ Nx φ φ' h h ∧ R w0 φ' h w' ∧ NR φ' (.val v) nx := by
 have fin : ∀ {s : Sem Value}, SimV w0 P φ h w s v h → execOp a.eval o = (do pure (.value (← s))) → ∃ nx w' φ', (execOp a.eval o).run P w = .ok nx w' ∧ Nx φ φ' h h ∧ R w0 φ' h w' ∧ NR φ' (.val v) nx := by
  intro s hsv he
  obtain ⟨v', w', φ', h1, h2, h3, h4⟩ := hsv
  exact ⟨.value v', w', φ', by rw [he, Sem.run_bind, h1]; rfl, h2, h3, .val h4⟩
 cases hop : o.op with
 | move x =>
  rw [hop] at hs; simp only [aVal0] at hs
  exact fin (s := pure (a.eval x)) (.pure r (aO_ok f hs)) (by simp only [execOp, hop]; rfl)
 | assign x =>
  rw [hop] at hs; simp only [aVal0] at hs
  exact fin (s := pure (a.eval x)) (.pure r (aO_ok f hs)) (by simp only [execOp, hop]; rfl)
 | pick c x y =>
  rw [hop] at hs; simp only [aVal0] at hs
  split at hs
  · rename_i q hq
    have hc := (aO_ok f hq).bool_inv
    refine fin (s := pure (if q then a.eval x else a.eval y)) (.pure r ?_) ?_
    · have := aO_ok f hs
      cases q <;> exact this
    · simp only [execOp, hop, hc, asBool]; rfl
  · cases hs
 | build T parts =>
  obtain ⟨ps⟩ := parts
  rw [hop] at hs; simp only [aVal0] at hs
  split at hs
  · rename_i l hl
    have hmap : ((⟨ps⟩ : Array (Nat × Operand)).map fun (i, x) => (i, a.eval x)) = ⟨ps.map fun p => (p.1, a.eval p.2)⟩ := by
      apply Array.ext'; simp
    exact fin (sim_build r hs (aPs_ok f hl)) (by simp only [execOp, hop, hmap])
  · cases hs
 | load T x =>
  rw [hop] at hs; simp only [aVal0] at hs
  split at hs
  · rename_i ad hx
    exact fin (sim_load r hs (aO_ok f hx)) (by simp only [execOp, hop])
  · cases hs
 | nilCheck x =>
  rw [hop] at hs; simp only [aVal0] at hs
  split at hs
  · rename_i v0 hv
    split at hs
    · rename_i hk
      cases hs
      have hv' := aO_ok f hv
      refine fin (s := pure (a.eval x)) (.pure r hv') ?_
      simp only [execOp, hop]
      unfold nilOk at hk
      split at hk
      · obtain ⟨i, _, _, e⟩ := hv'.ptr_inv; rw [e]; rfl
      · generalize a.eval x = u at hv'; cases hv'; rfl
      · generalize a.eval x = u at hv'; cases hv' with
        | func hf => cases hf with | same hf => rfl
      · cases hk
    · cases hs
  · cases hs
 | binOp op T x y yT =>
  rw [hop] at hs; simp only [aVal0] at hs
  split at hs
  · rename_i va vb hx hy
    exact fin (sim_bin r hs (aO_ok f hx) (aO_ok f hy)) (by simp only [execOp, hop])
  · cases hs
 | unOp op T x =>
  rw [hop] at hs; simp only [aVal0] at hs
  split at hs
  · rename_i va hx
    exact fin (sim_un r hs (aO_ok f hx)) (by simp only [execOp, hop])
  · cases hs
 | convert s d x =>
  rw [hop] at hs; simp only [aVal0] at hs
  split at hs
  · rename_i va hx
    exact fin (sim_conv r hs (aO_ok f hx)) (by simp only [execOp, hop])
  · cases hs
 | makeInterface T x =>
  rw [hop] at hs; simp only [aVal0] at hs
  split at hs
  · rename_i va hx
    exact fin (sim_mkI r hs (aO_ok f hx)) (by simp only [execOp, hop])
  · cases hs
 | makeFunc fn l m =>
  obtain ⟨l⟩ := l
  obtain ⟨m⟩ := m
  rw [hop] at hs
  cases fn with
  | func k =>
    simp only [aVal0] at hs
    split at hs
    · rename_i va vb hx hy
      cases hs
      refine fin (s := pure (.func (.func k) ⟨l.map a.eval⟩ ⟨m.map a.eval⟩)) (.pure r (.func' (.same (fun l e => by cases e)) (aOs_ok f hx) (aOs_ok f hy))) ?_
      simp only [execOp, hop, Instr.makeFunc]
      simp
    · cases hs
  | _ => simp [aVal0] at hs
 | slice T x lo hi mx =>
  rw [hop] at hs; simp only [aVal0] at hs
  split at hs
  · rename_i va x1 x2 x3 hx h1 h2 h3
    exact fin (sim_sl r hs (aO_ok f hx) (aOO_ok f h1) (aOO_ok f h2) (aOO_ok f h3)) (by simp only [execOp, hop])
  · cases hs
 | fieldAddr s x k =>
  rw [hop] at hs; simp only [aVal0] at hs
  split at hs
  · rename_i ad hx
    exact fin (sim_field r hs (aO_ok f hx)) (by simp only [execOp, hop])
  · cases hs
 | field T x k =>
  rw [hop] at hs; simp only [aVal0] at hs
  split at hs
  · rename_i va hx
    exact fin (sim_fieldV r hs (aO_ok f hx)) (by simp only [execOp, hop])
  · cases hs
 | indexAddr T x i =>
  rw [hop] at hs; simp only [aVal0] at hs
  split at hs
  · rename_i va vb hx hy
    exact fin (sim_index r hs (aO_ok f hx) (aO_ok f hy)) (by simp only [execOp, hop])
  · cases hs
 | index T x i =>
  rw [hop] at hs; simp only [aVal0] at hs
  split at hs
  · rename_i va vb hx hy
    exact fin (sim_indexV r hs (aO_ok f hx) (aO_ok f hy)) (by simp only [execOp, hop])
  · cases hs
 | lookup T x k c =>
  rw [hop] at hs; simp only [aVal0] at hs
  split at hs
  · rename_i va vb hx hy
    exact fin (sim_lookupX r hs (aO_ok f hx) (aO_ok f hy)) (by simp only [execOp, hop])
  · cases hs
 | typeAssert x xT T c =>
  rw [hop] at hs; simp only [aVal0] at hs
  split at hs
  · rename_i va hx
    exact fin (sim_assert (xT := xT) r hs (aO_ok f hx)) (by simp only [execOp, hop])
  · cases hs
 | extract x i =>
  rw [hop] at hs; simp only [aVal0] at hs
  split at hs
  · rename_i va hx
    exact fin (sim_extract r hs (aO_ok f hx)) (by simp only [execOp, hop])
  · cases hs
 | entry it =>
  rw [hop] at hs; simp only [aVal0] at hs
  split at hs
  · rename_i va hx
    exact fin (sim_entryIt r hs (aO_ok f hx)) (by simp only [execOp, hop])
  · cases hs
 | call c =>
  rw [hop] at hs
  unfold aVal0 at hs
  split at hs
  all_goals first | (rename_i e; cases e; done) | skip
  · rename_i x T e
    cases e
    split at hs
    · rename_i va hx
      refine fin (s := Builtin.len_ #[T] o.type #[a.eval x]) (sim_len r hs (aO_ok f hx)) ?_
      obtain ⟨cs, hcs⟩ := exec_builtin (ρ := a.eval) hop
      rw [hcs]
      rfl
    · cases hs
  · rename_i x T e
    cases e
    split at hs
    · rename_i va hx
      refine fin (s := Builtin.cap_ #[T] o.type #[a.eval x]) (sim_cap r hs (aO_ok f hx)) ?_
      obtain ⟨cs, hcs⟩ := exec_builtin (ρ := a.eval) hop
      rw [hcs]
      rfl
    · cases hs
  · cases hs
 | _ => rw [hop] at hs; simp [aVal0] at hs
def onext (x : Option (List (Value × AH))) : Outs := match x with | some l => some (l.map fun p => (.val p.1, p.2)) | none => none
structure VB where
 f : Program → Nat → T Value → AH → Option Value
def kInt : BinOp → Option (Int → Int → Value)
 | .add => some fun a b => .int .i64 (IntKind.i64.wrap (a + b))
 | .sub => some fun a b => .int .i64 (IntKind.i64.wrap (a - b))
 | .lss => some fun a b => .bool (a < b)
 | .leq => some fun a b => .bool (a ≤ b)
 | .gtr => some fun a b => .bool (a > b)
 | .geq => some fun a b => .bool (a ≥ b)
 | .eql => some fun a b => .bool (a == b)
 | .neq => some fun a b => .bool (a != b)
 | _ => none
theorem kInt_ok {op : BinOp} {g : Int → Int → Value} (hg : kInt op = some g) (T : TypeId) (x y : Operand) (a b : Int) : aBin P op T x y (.int .i64 a) (.int .i64 b) h = some (g a b) := by
 cases op <;> first | (cases hg; rfl) | (cases hg)
def kVal : Op → VB
 | .move x => ⟨fun _ n t _ => aO n t x⟩
 | .assign x => ⟨fun _ n t _ => aO n t x⟩
 | .pick c a b => ⟨fun _ n t _ => match aO n t c with
  | some (.bool q) => aO n t (if q then a else b)
  | _ => none⟩
 | .build T ⟨ps⟩ => ⟨fun P n t _ => match aPs n t ps with | some l => aBuild P T l | none => none⟩
 | .load T x => ⟨fun P n t h => match aO n t x with | some (.pointer (some a)) => aLoad P T a h | _ => none⟩
 | .nilCheck x => ⟨fun _ n t _ => match aO n t x with | some v => if nilOk v then some v else none | none => none⟩
 | .binOp op T x y _ => match kInt op with
  | some g => ⟨fun P n t h => match aO n t x, aO n t y with | some (.int .i64 a), some (.int .i64 b) => some (g a b) | some a, some b => aBin P op T x y a b h | _, _ => none⟩
  | none => ⟨fun P n t h => match aO n t x, aO n t y with | some a, some b => aBin P op T x y a b h | _, _ => none⟩
 | .unOp op _ x => ⟨fun P n t _ => match aO n t x with | some v => aUn P op v | none => none⟩
 | .convert s d x => ⟨fun P n t h => match aO n t x with | some v => aConv P s d v h | none => none⟩
 | .makeInterface T x => ⟨fun P n t _ => match aO n t x with | some v => aMkI P T v | none => none⟩
 | .makeFunc (.func f) ⟨l⟩ ⟨m⟩ => ⟨fun _ n t _ => match aOs n t l, aOs n t m with | some a, some b => some (.func (.func f) ⟨a⟩ ⟨b⟩) | _, _ => none⟩
 | .slice T x lo hi mx => ⟨fun P n t h => match aO n t x, aOO n t lo, aOO n t hi, aOO n t mx with | some v, some a, some b, some c => aSl P T v a b c h | _, _, _, _ => none⟩
 | .fieldAddr s x f => ⟨fun P n t _ => match aO n t x with | some (.pointer (some a)) => aField P s a f | _ => none⟩
 | .field T x f => ⟨fun P n t _ => match aO n t x with | some v => aFieldV P T v f | none => none⟩
 | .indexAddr T x i => ⟨fun P n t _ => match aO n t x, aO n t i with | some v, some j => aIndex P T v j | _, _ => none⟩
 | .index T x i => ⟨fun P n t _ => match aO n t x, aO n t i with | some v, some j => aIndexV P T v j | _, _ => none⟩
 | .lookup T x k c => ⟨fun P n t h => match aO n t x, aO n t k with | some v, some j => aLookupX P T v j c h | _, _ => none⟩
 | .typeAssert x _ T c => ⟨fun P n t _ => match aO n t x with | some v => aAssert P v T c | none => none⟩
 | .extract x i => ⟨fun _ n t _ => match aO n t x with | some v => aExtract v i | none => none⟩
 | .entry it => ⟨fun _ n t h => match aO n t it with | some v => aEntryIt v h | none => none⟩
 | .call ⟨.builtin .len, ⟨[x]⟩, ⟨[T]⟩⟩ => ⟨fun P n t h => match aO n t x with | some v => aLen P T v h | none => none⟩
 | .call ⟨.builtin .cap, ⟨[x]⟩, ⟨[T]⟩⟩ => ⟨fun P n t _ => match aO n t x with | some v => aCap P T v | none => none⟩
 | _ => ⟨fun _ _ _ _ => none⟩
def aVal (P : Program) (n : Nat) (t : T Value) (h : AH) (o : Op) : Option Value := (kVal o).f P n t h
theorem aVal_eq (o : Op) : aVal P n t h o = aVal0 P n t h o := by
 cases o with
 | binOp op T x y yt =>
  unfold aVal kVal
  dsimp only
  cases hg : kInt op with
  | none => rfl
  | some g =>
   dsimp only
   simp only [aVal0]
   split
   · rename_i a b h1 h2
     rw [h1, h2]; exact (kInt_ok hg T x y a b).symm
   · rename_i a b _ h1 h2
     rw [h1, h2]
   · rename_i h0 h1
     split
     · rename_i a b h2 h3; exact (h1 _ _ h2 h3).elim
     · rfl
 | _ => unfold aVal kVal aVal0; first | rfl | (split <;> first | rfl | (exfalso; simp_all; done))
theorem simN (r : R w0 φ h w) {a : Act} (f : FR φ n t a.tmps) {o : Oper} {v : Value} (hs : aVal P n t h o.op = some v) :
 ∃ nx w' φ', (execOp a.eval o).run P w = .ok nx w' ∧ Nx φ φ' h h ∧ R w0 φ' h w' ∧ NR φ' (.val v) nx := simN0 r f (by rw [← aVal_eq]; exact hs)
def aAct0 (P : Program) (n : Nat) (t : T Value) (h : AH) : Op → Outs
 | .store T a x => match aO n t a, aO n t x with | some (.pointer (some p)), some v => osk (aStore P T p v h) | _, _ => none
 | .mapUpdate T m k x => match aO n t m, aO n t k, aO n t x with | some a, some b, some c => osk (aUpdateX P T a b c h) | _, _, _ => none
 | .insert T m k x => match aO n t m, aO n t k, aO n t x with | some a, some b, some c => osk (aUpdate P T a b c h) | _, _, _ => none
 | .mapEntry T m k => match aO n t m, aO n t k with | some a, some b => ovh (aEntry P T a b h) | _, _ => none
 | .entryStore T m s x => match aO n t m, aO n t s, aO n t x with | some a, some b, some c => osk (aEStore T a b c h) | _, _, _ => none
 | .range T x => match aO n t x with | some v => ovh (aRange P T v h) | none => none
 | .next it isS => match aO n t it with | some v => onext (aNext v isS h) | none => none
 | .convert s d x => match aO n t x with | some v => aS2B P s d v h | none => none
 | .call ⟨.builtin b, ⟨args⟩, ⟨Ts⟩⟩ => match aOs n t args with | some vs => aBuiltin P b Ts vs h | none => none
 | _ => none
theorem simA0 (r : R w0 φ h w) {a : Act} (f : FR φ n t a.tmps) {o : Oper} {l : List (AN × AH)} (hs : aAct0 P n t h o.op = some l) : Sim w0 P φ h w (execOp a.eval o) l := by
 cases hop : o.op with
 | store T x y =>
  rw [hop] at hs; simp only [aAct0] at hs
  split at hs
  · rename_i p v hx hy
    have he : execOp a.eval o = (do Instr.storeAt T (a.eval x) (a.eval y); pure .skip) := by simp only [execOp, hop]
    rw [he]
    exact .osk hs (fun h' hh => sim_store r hh (aO_ok f hx) (aO_ok f hy))
  · cases hs
 | convert s d x =>
  rw [hop] at hs; simp only [aAct0] at hs
  split at hs
  · rename_i va hx
    have he : execOp a.eval o = (do pure (.value (← convert s d (a.eval x)))) := by simp only [execOp, hop]
    rw [he]
    exact sim_s2b r hs (aO_ok f hx)
  · cases hs
 | mapUpdate T m k x =>
  rw [hop] at hs; simp only [aAct0] at hs
  split at hs
  · rename_i va vb vc h1 h2 h3
    have he : execOp a.eval o = (do Instr.mapUpdate T (a.eval m) (a.eval k) (a.eval x); pure .skip) := by simp only [execOp, hop]
    rw [he]
    exact .osk hs (fun h' hh => sim_updateX r hh (aO_ok f h1) (aO_ok f h2) (aO_ok f h3))
  · cases hs
 | insert T m k x =>
  rw [hop] at hs; simp only [aAct0] at hs
  split at hs
  · rename_i va vb vc h1 h2 h3
    have he : execOp a.eval o = (do Instr.mapUpdate T (a.eval m) (a.eval k) (a.eval x); pure .skip) := by simp only [execOp, hop]
    rw [he]
    exact .osk hs (fun h' hh => sim_update r hh (aO_ok f h1) (aO_ok f h2) (aO_ok f h3))
  · cases hs
 | mapEntry T m k =>
  rw [hop] at hs; simp only [aAct0] at hs
  split at hs
  · rename_i va vb h1 h2
    have he : execOp a.eval o = (do pure (.value (← Instr.mapEntry T (a.eval m) (a.eval k)))) := by simp only [execOp, hop]
    rw [he]
    exact .ovh hs (fun v h' hh => sim_entry r hh (aO_ok f h1) (aO_ok f h2))
  · cases hs
 | entryStore T m s x =>
  rw [hop] at hs; simp only [aAct0] at hs
  split at hs
  · rename_i va vb vc h1 h2 h3
    have he : execOp a.eval o = (do Instr.entryStore T (a.eval m) (a.eval s) (a.eval x); pure .skip) := by simp only [execOp, hop]
    rw [he]
    exact .osk hs (fun h' hh => sim_estore r hh (aO_ok f h1) (aO_ok f h2) (aO_ok f h3))
  · cases hs
 | range T x =>
  rw [hop] at hs; simp only [aAct0] at hs
  split at hs
  · rename_i va h1
    have he : execOp a.eval o = (do pure (.value (← Instr.range T (a.eval x)))) := by simp only [execOp, hop]
    rw [he]
    exact .ovh hs (fun v h' hh => sim_range r hh (aO_ok f h1))
  · cases hs
 | next it isS =>
  rw [hop] at hs; simp only [aAct0] at hs
  split at hs
  · rename_i va h1
    have he : execOp a.eval o = (do pure (.value (← Instr.next (a.eval it) isS o.type))) := by simp only [execOp, hop]
    rw [he]
    unfold onext at hs
    split at hs
    · rename_i m hm
      cases hs
      obtain ⟨v, h', hmem, hsv⟩ := sim_next (ty := o.type) r hm (aO_ok f h1)
      exact .ofV hsv (List.mem_map.2 ⟨_, hmem, rfl⟩)
    · cases hs
  · cases hs
 | call c =>
  rw [hop] at hs
  obtain ⟨callee, args, Ts⟩ := c
  obtain ⟨args⟩ := args
  obtain ⟨Ts⟩ := Ts
  cases callee with
  | builtin b =>
    simp only [aAct0] at hs
    split at hs
    · rename_i vs hvs
      obtain ⟨cs, hcs⟩ := exec_builtin (ρ := a.eval) hop
      rw [hcs]
      exact sim_builtin r hs (aOs_ok f hvs)
    · cases hs
  | _ => simp [aAct0] at hs
 | _ => rw [hop] at hs; simp [aAct0] at hs
structure AB where
 f : Program → Nat → T Value → AH → Outs
def kAct : Op → AB
 | .store T a x => ⟨fun P n t h => match aO n t a, aO n t x with | some (.pointer (some p)), some v => osk (aStore P T p v h) | _, _ => none⟩
 | .mapUpdate T m k x => ⟨fun P n t h => match aO n t m, aO n t k, aO n t x with | some a, some b, some c => osk (aUpdateX P T a b c h) | _, _, _ => none⟩
 | .insert T m k x => ⟨fun P n t h => match aO n t m, aO n t k, aO n t x with | some a, some b, some c => osk (aUpdate P T a b c h) | _, _, _ => none⟩
 | .mapEntry T m k => ⟨fun P n t h => match aO n t m, aO n t k with | some a, some b => ovh (aEntry P T a b h) | _, _ => none⟩
 | .entryStore T m s x => ⟨fun _ n t h => match aO n t m, aO n t s, aO n t x with | some a, some b, some c => osk (aEStore T a b c h) | _, _, _ => none⟩
 | .range T x => ⟨fun P n t h => match aO n t x with | some v => ovh (aRange P T v h) | none => none⟩
 | .next it isS => ⟨fun _ n t h => match aO n t it with | some v => onext (aNext v isS h) | none => none⟩
 | .convert s d x => ⟨fun P n t h => match aO n t x with | some v => aS2B P s d v h | none => none⟩
 | .call ⟨.builtin b, ⟨args⟩, ⟨Ts⟩⟩ => ⟨fun P n t h => match aOs n t args with | some vs => aBuiltin P b Ts vs h | none => none⟩
 | _ => ⟨fun _ _ _ _ => none⟩
def aAct (P : Program) (n : Nat) (t : T Value) (h : AH) (o : Op) : Outs := (kAct o).f P n t h
theorem aAct_eq (o : Op) : aAct P n t h o = aAct0 P n t h o := by
 unfold aAct kAct aAct0
 split <;> rfl
theorem simA (r : R w0 φ h w) {a : Act} (f : FR φ n t a.tmps) {o : Oper} {l : List (AN × AH)} (hs : aAct P n t h o.op = some l) : Sim w0 P φ h w (execOp a.eval o) l := simA0 r f (by rw [← aAct_eq]; exact hs)
end
end Go.X
namespace Go.X
noncomputable section
open Go Go.RowKit
variable {w0 w w' : World} {φ φ' : Phi} {h h' : AH} {P : Program} {n : Nat} {t : T Value}
def joinL {β : Type} (x y : Option (List β)) : Option (List β) := match x, y with
 | some m, some k => some (m ++ k)
 | _, _ => none
def bindL.go {α β : Type} (f : α → Option (List β)) (l : List α) : Option (List β) := List.rec (motive := fun _ => Option (List β)) (some [])
 (fun a l ih => List.rec (motive := fun _ => Option (List β)) (f a) (fun _ _ _ => joinL (f a) ih) l) l
def bindL {α β : Type} (x : Option (List α)) (f : α → Option (List β)) : Option (List β) := Option.rec (motive := fun _ => Option (List β)) none (fun l => bindL.go f l) x
theorem bindL_go {α β : Type} {f : α → Option (List β)} : ∀ {l : List α} {m : List β}, bindL.go f l = some m → ∀ a, a ∈ l → ∃ k, f a = some k ∧ ∀ b, b ∈ k → b ∈ m
 | [], m, _, a, ha => by simp at ha
 | [x], m, h, a, ha => by
  simp at ha; subst ha
  exact ⟨m, h, fun b hb => hb⟩
 | x :: y :: l, m, h, a, ha => by
  have h : joinL (f x) (bindL.go f (y :: l)) = some m := h
  unfold joinL at h
  split at h
  · rename_i m1 k1 h1 h2
    cases h
    rcases List.mem_cons.1 ha with e | e
    · subst e; exact ⟨m1, h1, fun b hb => List.mem_append_left _ hb⟩
    · obtain ⟨k, h3, h4⟩ := bindL_go h2 a e
      exact ⟨k, h3, fun b hb => List.mem_append_right _ (h4 b hb)⟩
  · cases h
theorem bindL_spec {α β : Type} {x : Option (List α)} {f : α → Option (List β)} {m : List β} (h : bindL x f = some m) : ∃ l, x = some l ∧ ∀ a, a ∈ l → ∃ k, f a = some k ∧ ∀ b, b ∈ k → b ∈ m := by
 cases x with
 | none => cases h
 | some l => exact ⟨l, rfl, bindL_go h⟩
def aCallF (P : Program) (f : FuncId) (args : List Value) (h : AH) : Outs := match P.funcs[f]? with
 | some fn => (match fn.body with
  | some _ => some [(.enter f args, h)]
  | none => none)
 | none => none
def NoCount (P : Program) : Prop := ∀ (f : FuncId) (fn : Func), P.funcs[f]? = some fn → fn.body.isSome = true → (fn.name == "runtime.NumGoroutine") = false
theorem run_callF (hN : NoCount P) {f : FuncId} {args args' : List Value} {l : List (AN × AH)} (hs : aCallF P f args h = some l) (w : World) : l = [(.enter f args, h)] ∧ (callFunc f ⟨args'⟩).run P w = .ok (.enter f ⟨args'⟩) w := by
 unfold aCallF at hs
 split at hs
 · rename_i fn hf
   split at hs
   · rename_i c hb
     cases hs
     refine ⟨rfl, ?_⟩
     have := hN f fn hf (by rw [hb]; rfl)
     have this : fn.name ≠ "runtime.NumGoroutine" := by simpa using this
     simp [callFunc, hf, this, hb]
   · cases hs
 · cases hs
def aExt (P : Program) (f : FuncId) (args : List Value) (h : AH) : Outs := match P.funcs[f]? with
 | some fn => (match fn.body with
  | some _ => none
  | none => (match args with
   | [.int .u64 (.ofNat x), .int .u64 (.ofNat y), .int .u64 (.ofNat c)] => (match Nat.ble c 1 && fn.origin == "" with
    | true => (match fn.name == "math/bits.Add64" with
     | true => some [(.val (.tuple #[.int .u64 (.ofNat ((x + y + c) % 18446744073709551616)), .int .u64 (.ofNat ((x + y + c) / 18446744073709551616))]), h)]
     | false => (match fn.name == "math/bits.Sub64" with
      | true => some [(.val (.tuple #[.int .u64 (.ofNat ((x + 18446744073709551616 - y - c) % 18446744073709551616)), .int .u64 (.ofNat (if x < y + c then 1 else 0))]), h)]
      | false => none))
    | false => none)
   | _ => none))
 | none => none
def sub64E : Array Value → Sem Value := fun args => do
 let (x, y, b) ← Extern.MathBitsCarry.three "Sub64" args
 pure (Extern.MathBitsCarry.pair ((x + Extern.MathBitsCarry.m64 - y - b) % Extern.MathBitsCarry.m64) (if x < y + b then 1 else 0))
theorem run_sub64E (x y b : Nat) (hb : b ≤ 1) (w : World) : (sub64E #[.int .u64 (.ofNat x), .int .u64 (.ofNat y), .int .u64 (.ofNat b)]).run P w =
  .ok (.tuple #[.int .u64 (.ofNat ((x + 18446744073709551616 - y - b) % 18446744073709551616)), .int .u64 (.ofNat (if x < y + b then 1 else 0))]) w := by
 have : b = 0 ∨ b = 1 := by omega
 rcases this with rfl | rfl <;> rfl
theorem run_add64E (x y b : Nat) (hb : b ≤ 1) (w : World) : (add64Entry #[.int .u64 (.ofNat x), .int .u64 (.ofNat y), .int .u64 (.ofNat b)]).run P w =
  .ok (.tuple #[.int .u64 (.ofNat ((x + y + b) % 18446744073709551616)), .int .u64 (.ofNat ((x + y + b) / 18446744073709551616))]) w := by
 have : b = 0 ∨ b = 1 := by omega
 rcases this with rfl | rfl <;> rfl
theorem noNext_of {fn : Func} {nm : String} (hn : fn.name = nm) (ho : fn.origin = "") (h1 : (Extern.allNextRows.lookup nm).isNone = true) (h2 : (Extern.allNextRows.lookup "").isNone = true) : Extern.findNext fn = none := by
 unfold Extern.findNext
 rw [Option.isNone_iff_eq_none] at h1 h2
 simp only [hn, ho, h1, h2]
 rfl
theorem find_of {fn : Func} {nm : String} {e : Array Value → Sem Value} (hn : fn.name = nm) (h1 : (Extern.allGenericRows.lookup nm).isNone = true) (h2 : (Extern.allTypedRows.lookup nm).isNone = true) (h3 : Extern.allRows.lookup nm = some e) : Extern.find fn = some e := by
 unfold Extern.find
 rw [Option.isNone_iff_eq_none] at h1 h2
 simp only [hn, h1, h2, h3]
 rfl
theorem run_ext {f : FuncId} {args args' : List Value} {l : List (AN × AH)} (hs : aExt P f args h = some l) (ha : LR φ args args') (w : World) : ∃ v v', l = [(.val v, h)] ∧ (callFunc f ⟨args'⟩).run P w = .ok (.value v') w ∧ VR φ v v' := by
 unfold aExt at hs
 split at hs
 · rename_i fn hf
   split at hs
   · cases hs
   · rename_i hb
     split at hs
     · rename_i x y c
       have e : args' = [.int .u64 (.ofNat x), .int .u64 (.ofNat y), .int .u64 (.ofNat c)] := by
         cases ha with
         | cons a1 t1 => cases t1 with
           | cons a2 t2 => cases t2 with
             | cons a3 t3 => cases t3; cases a1; cases a2; cases a3; rfl
       subst e
       split at hs
       · rename_i hc
         rw [Bool.and_eq_true] at hc
         have hc1 := Nat.le_of_ble_eq_true hc.1
         have ho : fn.origin = "" := eq_of_beq hc.2
         split at hs
         · rename_i hn
           have hn : fn.name = "math/bits.Add64" := eq_of_beq hn
           cases hs
           refine ⟨_, _, rfl, ?_, pfv_refl φ rfl⟩
           rw [run_callFunc_extern hf (by rw [hn]; decide +kernel) (by rw [hb]; rfl) (noNext_of hn ho (by kernel_rfl) (by kernel_rfl)) (find_of (e := add64Entry) hn (by kernel_rfl) (by kernel_rfl) (by kernel_rfl))]
           show ((add64Entry #[.int .u64 (.ofNat x), .int .u64 (.ofNat y), .int .u64 (.ofNat c)]).run P w).andThen _ = _
           rw [run_add64E x y c hc1]
           rfl
         · split at hs
           · rename_i hn
             have hn : fn.name = "math/bits.Sub64" := eq_of_beq hn
             cases hs
             refine ⟨_, _, rfl, ?_, pfv_refl φ rfl⟩
             rw [run_callFunc_extern hf (by rw [hn]; decide +kernel) (by rw [hb]; rfl) (noNext_of hn ho (by kernel_rfl) (by kernel_rfl)) (find_of (e := sub64E) hn (by kernel_rfl) (by kernel_rfl) (by kernel_rfl))]
             show ((sub64E #[.int .u64 (.ofNat x), .int .u64 (.ofNat y), .int .u64 (.ofNat c)]).run P w).andThen _ = _
             rw [run_sub64E x y c hc1]
             rfl
           · cases hs
       · cases hs
     · cases hs
 · cases hs
def aSame (P : Program) (f : FuncId) (args : List Value) (h : AH) : Outs := match P.funcs[f]? with
 | some fn => (match fn.body with
  | some _ => none
  | none => (match args with
   | [x] => (match fn.origin == "" && fn.name == "internal/abi.NoEscape" with
    | true => some [(.val x, h)]
    | false => none)
   | _ => none))
 | none => none
theorem run_same {f : FuncId} {args args' : List Value} {l : List (AN × AH)} (hs : aSame P f args h = some l) (ha : LR φ args args') (w : World) : ∃ v v', l = [(.val v, h)] ∧ (callFunc f ⟨args'⟩).run P w = .ok (.value v') w ∧ VR φ v v' := by
 unfold aSame at hs
 split at hs
 · rename_i fn hf
   split at hs
   · cases hs
   · rename_i hb
     split at hs
     · rename_i x
       obtain ⟨x', rfl, hx⟩ := ha.one_inv
       split at hs
       · rename_i hc
         rw [Bool.and_eq_true] at hc
         have ho : fn.origin = "" := eq_of_beq hc.1
         have hn : fn.name = "internal/abi.NoEscape" := eq_of_beq hc.2
         cases hs
         refine ⟨_, _, rfl, ?_, hx⟩
         rw [run_callFunc_extern hf (by rw [hn]; decide +kernel) (by rw [hb]; rfl) (noNext_of hn ho (by kernel_rfl) (by kernel_rfl)) (find_of (e := Extern.AbiNoEscape.same) hn (by kernel_rfl) (by kernel_rfl) (by kernel_rfl))]
         show ((Extern.AbiNoEscape.same #[x']).run P w).andThen _ = _
         rw [Lib.run_noEscape w x']
         rfl
       · cases hs
     · cases hs
 · cases hs
def aCallX (P : Program) (f : FuncId) (args : List Value) (h : AH) : Outs := match aCallF P f args h with
 | some l => some l
 | none => (match aExt P f args h with
  | some l => some l
  | none => aSame P f args h)
def setAll : T Value → List Tmp → List Value → T Value
 | t, p :: ps, v :: vs => setAll (t.set p (some v)) ps vs
 | t, _, _ => t
theorem FR.set {a : Array Value} (f : FR φ n t a) {d : Nat} (hd : d < n) {v v' : Value} (hv : VR φ v v') : FR φ n (t.set d (some v)) (a.setIfInBounds d v') := by
 refine ⟨by simp [f.size], f.lt, fun k u hk => ?_⟩
 rw [T.get_set]
 rw [Array.getElem?_setIfInBounds] at hk
 by_cases e : d = k
 · subst e
   rw [if_pos rfl, if_pos (by rw [f.size]; exact hd)] at hk
   cases hk
   rw [if_pos rfl]; exact hv
 · rw [if_neg e] at hk
   rw [if_neg (fun x => e x.symm)]
   exact f.get k u hk
theorem FR.setAll : ∀ {ps : List Tmp} {vs vs' : List Value} {t : T Value} {a : Array Value}, FR φ n t a → ps.all (fun p => decide (p < n)) = true → LR φ vs vs' →
  FR φ n (setAll t ps vs) ((ps.zip vs').foldl (fun tmps p => tmps.setIfInBounds p.1 p.2) a)
 | [], vs, vs', t, a, f, _, _ => by simpa [X.setAll] using f
 | p :: ps, [], vs', t, a, f, _, hv => by cases hv; simpa [X.setAll] using f
 | p :: ps, v :: vs, vs', t, a, f, hp, hv => by
  cases hv with
  | cons h1 h2 =>
   simp only [List.all_cons, Bool.and_eq_true, decide_eq_true_eq] at hp
   simp only [X.setAll, List.zip_cons_cons, List.foldl_cons]
   exact FR.setAll (f.set hp.1 h1) hp.2 h2
def aInvoke (P : Program) (fn : Fn) (cap args : List Value) (h : AH) : Outs := match fn with
 | .func f => aCallX P f (args ++ cap) h
 | .yield l => (match h.m.get l with
  | some (.loop _ _ ts sz ps asg body) => if args.length = ps.length ∧ ps.all (fun p => decide (p < sz)) = true then some [(.round l (setAll ts ps args) sz asg body, h)] else none
  | _ => none)
 | _ => none
theorem run_invoke (hN : NoCount P) (r : R w0 φ h w) {fn fn' : Fn} {cap cap' args args' : List Value} {l : List (AN × AH)} (hs : aInvoke P fn cap args h = some l) (hf : FnR φ fn fn') (hc : LR φ cap cap') (ha : LR φ args args') :
   ∃ an nx, l = [(an, h)] ∧ (invoke (.fn fn' ⟨cap'⟩) ⟨args'⟩).run P w = .ok nx w ∧ NR φ an nx := by
 unfold aInvoke at hs
 split at hs
 · rename_i k
   cases hf
   have hinv : (invoke (.fn (.func k) ⟨cap'⟩) ⟨args'⟩).run P w = (callFunc k ⟨args' ++ cap'⟩).run P w := by
     simp only [invoke]
     have : (⟨args'⟩ ++ ⟨cap'⟩ : Array Value) = ⟨args' ++ cap'⟩ := by apply Array.ext'; simp
     rw [this]
   unfold aCallX at hs
   split at hs
   · rename_i l' hl'
     cases hs
     obtain ⟨h1, h2⟩ := run_callF (args' := args' ++ cap') hN hl' w
     exact ⟨_, _, h1, by rw [hinv]; exact h2, .enter (ha.append hc)⟩
   · split at hs
     · rename_i l' hl'
       cases hs
       obtain ⟨v, v', h1, h2, h3⟩ := run_ext hl' (ha.append hc) w
       exact ⟨_, _, h1, by rw [hinv]; exact h2, .val h3⟩
     · obtain ⟨v, v', h1, h2, h3⟩ := run_same hs (ha.append hc) w
       exact ⟨_, _, h1, by rw [hinv]; exact h2, .val h3⟩
 · rename_i b
   cases hf with
   | same hf => exact (hf _ rfl).elim
   | yield i hi =>
     split at hs
     · rename_i st pend ts sz ps asg body ho
       split at hs
       · rename_i hl
         cases hs
         obtain ⟨fn0, arr, df, hw, hfr⟩ := r.dom _ _ _ hi ho
         have hsz : (⟨args'⟩ : Array Value).size = (⟨ps⟩ : Array Tmp).size := by simp [← ha.length, hl.1]
         have := run_yield (P := P) (args := ⟨args'⟩) hw hsz
         refine ⟨_, _, rfl, by simp only [invoke]; exact this, .round hi ?_⟩
         have := FR.setAll hfr hl.2 ha
         have e : (((⟨ps⟩ : Array Tmp).zip ⟨args'⟩).foldl (fun tmps (x : Tmp × Value) => tmps.setIfInBounds x.1 x.2) arr) = ((ps.zip args').foldl (fun tmps p => tmps.setIfInBounds p.1 p.2) arr) := by
          rw [← Array.foldl_toList, Array.toList_zip]
         rw [← e] at this
         exact this
       · cases hs
     · cases hs
 · cases hs
def aMethod (P : Program) (ty : TypeId) (v : Value) (name : String) : Option (FuncId × Value) := match P.info? ty with
 | some i => (match i.methods.find? (·.name == name) with
  | some m => if m.path.isEmpty then (match m.func, P.underlying ty with
   | some (f, true), some (.pointer _) => some (f, v)
   | some (_, false), some (.pointer _) => none
   | some (f, false), some _ => some (f, v)
   | _, _ => none) else none
  | none => none)
 | none => none
theorem run_method {ty : TypeId} {v v' : Value} {name : String} {f : FuncId} {u : Value} (hs : aMethod P ty v name = some (f, u)) (k : Nat) (w : World) : u = v ∧ (method (k + 1) ty v' name).run P w = .ok (f, v') w := by
 unfold aMethod at hs
 split at hs
 · rename_i i hi
   split at hs
   · rename_i m hm
     split at hs
     · rename_i hp
       have hpath : m.path.toList = [] := by
         have : m.path.size = 0 := by rw [Array.isEmpty_iff_size_eq_zero] at hp; exact hp
         exact List.eq_nil_of_length_eq_zero (by rw [Array.length_toList]; exact this)
       split at hs
       · rename_i f' el hfu hu
         cases hs
         refine ⟨rfl, ?_⟩
         simp only [method, Sem.run_bind, rI hi, Result.andThen_ok, hm, hpath, follow, Sem.run_pure, hfu, receiverAt, run_underlying hu, Place.get]
       · cases hs
       · rename_i f' d hd hfu hu
         cases hs
         refine ⟨rfl, ?_⟩
         cases d <;> first | exact (hd _ rfl).elim | simp only [method, Sem.run_bind, rI hi, Result.andThen_ok, hm, hpath, follow, Sem.run_pure, hfu, receiverAt, run_underlying hu, Place.get]
       · cases hs
     · cases hs
   · cases hs
 · cases hs
def aCallO (P : Program) (n : Nat) (t : T Value) (h : AH) : Op → Outs
 | .call ⟨.value f, ⟨args⟩, _⟩ => match aO n t f, aOs n t args with
  | some (.func fn ⟨first⟩ ⟨cap⟩), some vs => aInvoke P fn cap (first ++ vs) h
  | _, _ => none
 | .call ⟨.invoke recv name, ⟨args⟩, _⟩ => match aO n t recv, aOs n t args with
  | some (.iface ty v), some vs => (match aMethod P ty v name with
   | some (f, _) => aCallF P f (v :: vs) h
   | none => none)
  | _, _ => none
 | _ => none
theorem simC (hN : NoCount P) (r : R w0 φ h w) {a : Act} (f : FR φ n t a.tmps) {o : Oper} {l : List (AN × AH)} (hs : aCallO P n t h o.op = some l) : Sim w0 P φ h w (execOp a.eval o) l := by
 cases hop : o.op with
 | call c =>
  rw [hop] at hs
  obtain ⟨callee, args, Ts⟩ := c
  obtain ⟨args⟩ := args
  cases callee with
  | value fv =>
   simp only [aCallO] at hs
   split at hs
   · rename_i fn first cap vs hfv hvs
     have h1 := aO_ok f hfv
     have h2 := aOs_ok f hvs
     generalize hev : a.eval fv = u at h1
     cases h1 with
     | @func _ fn' _ _ first' cap' hfn ha hb h3 h4 =>
      obtain ⟨an, nx, rfl, hrun, hnr⟩ := run_invoke hN r hs hfn (LR.of hb h4) ((LR.of ha h3).append h2)
      refine ⟨an, h, List.mem_singleton.2 rfl, nx, w, φ, ?_, .refl φ h, r, hnr⟩
      have e1 : (⟨first'⟩ ++ ⟨args.map a.eval⟩ : Array Value) = ⟨first' ++ args.map a.eval⟩ := by apply Array.ext'; simp
      simp only [execOp, hop, resolve, hev, Deferred.ofValue, Sem.run_bind, Sem.run_pure, Result.andThen_ok, amap, e1]
      exact hrun
   · cases hs
  | invoke recv name =>
   simp only [aCallO] at hs
   split at hs
   · rename_i ty v vs hrv hvs
     have h1 := aO_ok f hrv
     have h2 := aOs_ok f hvs
     generalize hev : a.eval recv = u at h1
     cases h1 with
     | @iface _ _ v' h1 =>
      split at hs
      · rename_i f' u hm
        obtain ⟨rfl, hmr⟩ := run_method (v' := v') hm (P.types.size + Made.depth - 1) w
        obtain ⟨h5, h6⟩ := run_callF (args' := v' :: args.map a.eval) hN hs w
        subst h5
        refine ⟨_, h, List.mem_singleton.2 rfl, .enter f' ⟨v' :: args.map a.eval⟩, w, φ, ?_, .refl φ h, r, .enter (.cons h1 h2)⟩
        have e0 : P.types.size + Made.depth - 1 + 1 = P.types.size + Made.depth := by
         have : 0 < Made.depth := by decide
         omega
        rw [e0] at hmr
        have e1 : (#[Value.iface ty v'] ++ ⟨args.map a.eval⟩ : Array Value) = ⟨Value.iface ty v' :: args.map a.eval⟩ := by apply Array.ext'; simp
        have e2 : (⟨Value.iface ty v' :: args.map a.eval⟩ : Array Value).extract 1 (⟨Value.iface ty v' :: args.map a.eval⟩ : Array Value).size = ⟨args.map a.eval⟩ := by
         apply Array.ext'; simp
         exact List.take_of_length_le (by simp)
        have e3 : (#[v'] ++ ⟨args.map a.eval⟩ : Array Value) = ⟨v' :: args.map a.eval⟩ := by apply Array.ext'; simp
        simp only [execOp, hop, resolve, hev, Sem.run_bind, Sem.run_pure, Result.andThen_ok, amap, e1, invoke]
        have e4 : (⟨Value.iface ty v' :: args.map a.eval⟩ : Array Value)[0]? = some (Value.iface ty v') := by simp
        simp only [e4, e2, callMethod, Sem.run_bind, program]
        show ((Sem.run P (Sem.program Sem.pure) w).andThen _) = _
        simp only [Sem.run, Result.andThen_ok, hmr, e3]
        exact h6
      · cases hs
   · cases hs
  | builtin b => simp [aCallO] at hs
 | _ => rw [hop] at hs; simp [aCallO] at hs
def kOp : Op → Nat
 | .alloc _ | .box _ _ | .buildSlice _ _ _ | .makeSlice _ _ _ | .makeMap _ _ => 0
 | .store _ _ _ | .mapUpdate _ _ _ _ | .insert _ _ _ _ | .mapEntry _ _ _ | .entryStore _ _ _ _ | .range _ _ | .next _ _ => 2
 | .call ⟨.value _, _, _⟩ | .call ⟨.invoke _ _, _, _⟩ => 3
 | .call _ | .convert _ _ _ => 4
 | _ => 1
def aOp (P : Program) (n : Nat) (t : T Value) (h : AH) (o : Op) : Outs := match kOp o with
 | 0 => (match aAl P n t o with
  | some p => aNew (some p) h
  | none => none)
 | 1 => (match aVal P n t h o with
  | some v => some [(.val v, h)]
  | none => none)
 | 2 => aAct P n t h o
 | 3 => aCallO P n t h o
 | _ => (match aVal P n t h o with
  | some v => some [(.val v, h)]
  | none => aAct P n t h o)
theorem R.newAl (r : R w0 φ h w) {al : Al} {mk : Mk} {x : Obj} {b : Nat} (hs : h.newAl al = some (b, h')) (hk : al.ok mk = true) (ha : AlR φ al x) :
   ∃ φ', Nx φ φ' h h' ∧ φ' b = some (al.im w.heap.size) ∧ R w0 φ' h' (w.alloc x) := by
 unfold AH.newAl at hs
 split at hs
 · rename_i hn
   cases hs
   have hc : (al.im w.heap.size).c = w.heap.size := by cases al <;> rfl
   obtain ⟨φ', le, h1, h2, h3⟩ := r.new (i := al.im w.heap.size) (o := al.obj) (x := x) hc trivial (fun φ' w' le hw => AlR.or hk ha le (by rw [← hc]; exact hw))
   exact ⟨φ', .new le h3 trivial, h1, h2⟩
 · cases hs
theorem sim_op (hN : NoCount P) (r : R w0 φ h w) {a : Act} (f : FR φ n t a.tmps) {o : Oper} {l : List (AN × AH)} (hs : aOp P n t h o.op = some l) : Sim w0 P φ h w (execOp a.eval o) l := by
 have hal : ∀ {l : List (AN × AH)}, (match aAl P n t o.op with | some p => aNew (some p) h | none => none) = some l → Sim w0 P φ h w (execOp a.eval o) l := by
   intro l hs
   split at hs
   · rename_i p hp
     obtain ⟨al, mk⟩ := p
     obtain ⟨hk, x, hx, hrun⟩ := al_run f hp
     unfold aNew at hs
     dsimp only at hs
     split at hs
     · rename_i b h1 hn
       cases hs
       obtain ⟨φ', nx, hb, r'⟩ := r.newAl hn hk hx
       exact ⟨_, _, List.mem_singleton.2 rfl, _, _, φ', hrun w, nx, r', .val (Mk.rel hk hb)⟩
     · cases hs
   · cases hs
 have hvl : ∀ {v : Value}, aVal P n t h o.op = some v → Sim w0 P φ h w (execOp a.eval o) [(.val v, h)] := by
   intro v hv
   obtain ⟨nx, w', φ', h1, h2, h3, h4⟩ := simN r f hv
   exact ⟨_, _, List.mem_singleton.2 rfl, nx, w', φ', h1, h2, h3, h4⟩
 unfold aOp at hs
 split at hs
 · exact hal hs
 · split at hs
   · rename_i v hv
     cases hs; exact hvl hv
   · cases hs
 · exact simA r f hs
 · exact simC hN r f hs
 · split at hs
   · rename_i v hv
     cases hs; exact hvl hv
   · exact simA r f hs
theorem aOp_defer {c : Call} {l : List (AN × AH)} (hs : aOp P n t h (.defer c) = some l) : False := by
 simp [aOp, kOp, aVal_eq, aVal0] at hs
end
end Go.X
namespace Go.X
noncomputable section
open Go Go.RowKit
variable {w0 w w' : World} {φ φ' : Phi} {h h' : AH} {P : Program} {n : Nat} {t : T Value}
def FW : Option Nat → Fence
 | none => Fence.wide
 | some l => Fence.wide.inRound l
theorem FW_fn (q : Option Nat) (f : FuncId) : (FW q).fn f := by cases q <;> trivial
theorem FW_depth (q : Option Nat) : (FW q).depth = none := by cases q <;> rfl
theorem FW_round (q : Option Nat) : (FW q).round = q := by cases q <;> rfl
theorem FW_calls {q : Option Nat} {m : Nat} {f : FuncId} {args : Array Value} {R : Ending → World → Prop} (hc : Calls P f args w R) : CallsIn (FW q) m P f args w R := by
 have h1 : CallsIn Fence.wide m P f args w R := callsIn_wide.2 hc
 cases q with
 | none => exact h1
 | some l => exact h1
theorem FW_roundIn {q : Option Nat} {m l : Nat} {f : FuncId} {tmps : Array Value} {asg body : Code} {R : Ending → World → Prop} (hc : RoundIn Fence.wide m P l f tmps asg body w R) : RoundIn (FW q) m P l f tmps asg body w R := by
 cases q with
 | none => exact hc
 | some k => exact hc
abbrev Call1 := AN → AH → Option (List (Value × AH))
def CallsOk (w0 : World) (P : Program) (call : Call1) : Prop :=
 ∀ (an : AN) (h : AH) (l : List (Value × AH)) (φ : Phi) (w : World) (nx : Next), call an h = some l → R w0 φ h w → NR φ an nx →
  let post : Ending → World → Prop := fun e w' => ∃ v', e = .returned v' ∧ ∃ v h', (v, h') ∈ l ∧ ∃ φ', Nx φ φ' h h' ∧ R w0 φ' h' w' ∧ VR φ' v v'
  (∀ f args, nx = .enter f args → Calls P f args w post) ∧
  (∀ b f tmps asg body, nx = .round b f tmps asg body → ∀ m, RoundIn Fence.wide m P b f tmps asg body w post)
def aStep (P : Program) (call : Call1) (n : Nat) (t : T Value) (h : AH) (o : Op) : Option (List (Value × AH)) := bindL (aOp P n t h o) fun p => match p with
 | (.val v, h') => some [(v, h')]
 | (.skip, h') => some [(undef, h')]
 | (an, h') => call an h'
theorem step_ok (hN : NoCount P) {call : Call1} (hc : CallsOk w0 P call) (r : R w0 φ h w) {a : Act} (f : FR φ n t a.tmps) {o : Oper} {l : List (Value × AH)} (hs : aStep P call n t h o.op = some l) {q : Option Nat} {m : Nat}
  {K : Act → World → Prop} {Q : Exit → Act → World → Prop} (hK : ∀ v h' v' w' φ', (v, h') ∈ l → Nx φ φ' h h' → R w0 φ' h' w' → VR φ' v v' → K (a.put o.dst v') w') : o.wpIn (FW q) m P a w K Q := by
 refine ⟨fun f _ => FW_fn q f, ?_⟩
 obtain ⟨l0, h0, hall⟩ := bindL_spec hs
 have hnd : ∀ c, o.op ≠ .defer c := fun c e => by rw [e] at h0; exact aOp_defer h0
 rw [FW_round, Oper.semAt_eq _ _ _ hnd]
 obtain ⟨an, h1, hm, nx, w1, φ1, hrun, nx1, r1, hnr⟩ := sim_op hN r f h0
 obtain ⟨k, hk, hsub⟩ := hall _ hm
 rw [hrun]
 have dep : (FW q).depth.isSome = true → 1 ≤ m := by rw [FW_depth]; intro x; cases x
 cases hnr with
 | val hv =>
  simp only at hk; cases hk
  exact hK _ _ _ _ φ1 (hsub _ (List.mem_singleton.2 rfl)) nx1 r1 hv
 | skip =>
  simp only at hk; cases hk
  exact hK _ _ _ _ φ1 (hsub _ (List.mem_singleton.2 rfl)) nx1 r1 .undef
 | enter hl =>
  have := (hc _ _ _ _ _ _ hk r1 (.enter hl)).1 _ _ rfl
  refine ⟨dep, FW_calls (this.mono ?_)⟩
  rintro e w2 ⟨v', rfl, v, h2, hmem, φ2, nx2, r2, hv⟩
  exact hK _ _ _ _ φ2 (hsub _ hmem) (nx1.trans nx2) r2 hv
 | @round b i ts sz asg body fn arr hb hf =>
  have := (hc _ _ _ _ _ _ hk r1 (.round (fn := fn) hb hf)).2 _ _ _ _ _ rfl (m - 1)
  refine ⟨dep, FW_roundIn (this.mono ?_)⟩
  rintro e w2 ⟨v', rfl, v, h2, hmem, φ2, nx2, r2, hv⟩
  exact hK _ _ _ _ φ2 (hsub _ hmem) (nx1.trans nx2) r2 hv
def aYd (n : Nat) (t : T Value) (ops : Array Oper) (j : Nat) : Option Bool := match ops[j]? with
 | some o => (match o.dst with
  | some d => if d < n then (match t.get d with
   | some (.bool b) => some b
   | _ => none) else none
  | none => none)
 | none => none
theorem yd_ok {a : Array Value} (f : FR φ n t a) (ops : Array Oper) (j : Nat) : yielded ops a j = aYd n t ops j := by
 unfold yielded aYd
 cases ho : ops[j]? with
 | none => rfl
 | some o =>
  simp only [Option.bind_some]
  cases hd : o.dst with
  | none => rfl
  | some d =>
   simp only [Option.bind_some]
   by_cases hlt : d < n
   · rw [if_pos hlt]
     have h1 : a[d]? = some (a.getD d Go.undef) := by
      rw [Array.getD_eq_getD_getElem?, Array.getElem?_eq_getElem (by rw [f.size]; exact hlt)]; simp
     have h2 := f.at d hlt
     rw [h1]
     generalize a.getD d Go.undef = u at h2
     cases hg : t.get d with
     | none =>
      rw [hg] at h2
      simp only [Option.getD_none] at h2
      obtain ⟨l', rfl, _⟩ := VR.tuple_inv (l := []) h2
      rfl
     | some v =>
      rw [hg] at h2
      simp only [Option.getD_some] at h2
      cases h2 <;> first | rfl | (rename_i hb; cases u <;> first | rfl | (cases hb))
   · rw [if_neg hlt]
     have h9 : a[d]? = none := Array.getElem?_eq_none (Nat.le_trans (Nat.le_of_eq f.size) (Nat.le_of_not_lt hlt))
     rw [h9]
def aWant (n : Nat) (t : T Value) (ops : Array Oper) (o : Oper) : Bool := match o.guard with
 | none => true
 | some (j, b) => (match aYd n t ops j with
  | some c => c == b
  | none => false)
theorem want_ok {a : Array Value} (f : FR φ n t a) (ops : Array Oper) (o : Oper) : Region.wanted o (yielded ops a) = aWant n t ops o := by
 unfold Region.wanted aWant
 cases o.guard with
 | none => rfl
 | some p =>
  obtain ⟨j, b⟩ := p
  dsimp only
  rw [yd_ok f]
  cases aYd n t ops j with
  | none => rfl
  | some c => cases c <;> cases b <;> rfl
def aPut (n : Nat) (t : T Value) (d : Option Tmp) (v : Value) : Option (T Value) := Option.rec (motive := fun _ => Option (T Value)) (some t)
 (fun d => Bool.rec (motive := fun _ => Option (T Value)) (some (t.set d (some v))) none (Nat.ble n d)) d
theorem aPut_eq (n : Nat) (t : T Value) (d : Option Tmp) (v : Value) : aPut n t d v = match d with
 | none => some t
 | some d => if d < n then some (t.set d (some v)) else none := by
 cases d with
 | none => rfl
 | some d =>
  show Bool.rec (motive := fun _ => Option (T Value)) _ _ (Nat.ble n d) = _
  cases hb : Nat.ble n d with
  | true =>
   have : ¬ d < n := Nat.not_lt.2 (Nat.le_of_ble_eq_true hb)
   simp [this]
  | false =>
   have : d < n := Nat.lt_of_not_le (fun hle => by rw [Nat.ble_eq_true_of_le hle] at hb; cases hb)
   simp [this]
theorem put_ok {a : Act} (f : FR φ n t a.tmps) {d : Option Tmp} {v v' : Value} {t' : T Value} (hs : aPut n t d v = some t') (hv : VR φ v v') : FR φ n t' (a.put d v').tmps ∧ (a.put d v').defers = a.defers := by
 rw [aPut_eq] at hs
 cases d with
 | none => cases hs; exact ⟨f, rfl⟩
 | some d =>
  dsimp only at hs
  split at hs
  · cases hs; exact ⟨f.set ‹_› hv, rfl⟩
  · cases hs
def aOps0 (P : Program) (call : Call1) (n : Nat) (ops : Array Oper) : List Nat → T Value → AH → Option (List (T Value × AH))
 | [], t, h => some [(t, h)]
 | i :: r, t, h => match ops[i]? with
  | none => none
  | some o => if aWant n t ops o then bindL (aStep P call n t h o.op) fun p => (match aPut n t o.dst p.1 with
    | some t' => aOps0 P call n ops r t' p.2
    | none => none)
   else (match aPut n t o.dst undef with
    | some t' => aOps0 P call n ops r t' h
    | none => none)
theorem ops_ok0 (hN : NoCount P) {call : Call1} (hc : CallsOk w0 P call) {ops : Array Oper} {q : Option Nat} {m : Nat} {Q : Exit → Act → World → Prop} : ∀ (r : List Nat) {t : T Value} {h : AH} {l : List (T Value × AH)} {φ : Phi} {a : Act} {w : World},
  aOps0 P call n ops r t h = some l → R w0 φ h w → FR φ n t a.tmps →
  (∀ t' h' φ' a' w', (t', h') ∈ l → Nx φ φ' h h' → R w0 φ' h' w' → FR φ' n t' a'.tmps → a'.defers = a.defers → Q .normal a' w') → wpOpsIn (FW q) m P ops Q r a w
 | [], t, h, l, φ, a, w, hs, hr, hf, hQ => by
  simp only [aOps0] at hs; cases hs
  exact hQ _ _ φ _ _ (List.mem_singleton.2 rfl) (.refl φ h) hr hf rfl
 | i :: r, t, h, l, φ, a, w, hs, hr, hf, hQ => by
  simp only [aOps0] at hs
  simp only [wpOpsIn]
  cases ho : ops[i]? with
  | none => rw [ho] at hs; cases hs
  | some o =>
   rw [ho] at hs
   dsimp only at hs ⊢
   rw [want_ok hf]
   split at hs
   · rename_i hw
     rw [if_pos hw]
     obtain ⟨l0, h0, hall⟩ := bindL_spec hs
     refine step_ok hN hc hr hf h0 ?_
     intro v h1 v' w1 φ1 hm nx1 r1 hv
     obtain ⟨k, hk, hsub⟩ := hall _ hm
     dsimp only at hk
     split at hk
     · rename_i t1 ht
       obtain ⟨f1, d1⟩ := put_ok (hf.mono nx1.le) ht hv
       refine ops_ok0 hN hc r hk r1 f1 (fun t' h' φ' a' w' hm' nx' r' f' d' => hQ t' h' φ' a' w' (hsub _ hm') (nx1.trans nx') r' f' (d'.trans d1))
     · cases hk
   · rename_i hw
     rw [if_neg hw]
     split at hs
     · rename_i t1 ht
       obtain ⟨f1, d1⟩ := put_ok hf ht .undef
       refine ⟨fun f _ => FW_fn q f, ops_ok0 hN hc r hs hr f1 (fun t' h' φ' a' w' hm' nx' r' f' d' => hQ t' h' φ' a' w' hm' nx' r' f' (d'.trans d1))⟩
     · cases hs
def opsStep (P : Program) (call : Call1) (n : Nat) (ops : Array Oper) (o : Oper) (ih : T Value → AH → Option (List (T Value × AH))) (t : T Value) (h : AH) : Option (List (T Value × AH)) :=
 Bool.rec (motive := fun _ => Option (List (T Value × AH)))
  (Option.rec (motive := fun _ => Option (List (T Value × AH))) none (fun t' => ih t' h) (aPut n t o.dst undef))
  (bindL (aStep P call n t h o.op) fun p => Option.rec (motive := fun _ => Option (List (T Value × AH))) none (fun t' => ih t' p.2) (aPut n t o.dst p.1)) (aWant n t ops o)
def aOps (P : Program) (call : Call1) (n : Nat) (ops : Array Oper) (l : List Oper) : T Value → AH → Option (List (T Value × AH)) :=
 List.rec (motive := fun _ => T Value → AH → Option (List (T Value × AH))) (fun t h => some [(t, h)]) (fun o _ ih => opsStep P call n ops o ih) l
theorem aOps_eq {call : Call1} {ops : Array Oper} : ∀ {l : List Oper} {r : List Nat}, r.map (fun i => ops[i]?) = l.map some → ∀ t h, aOps P call n ops l t h = aOps0 P call n ops r t h
 | [], [], _, t, h => rfl
 | [], _ :: _, hm, _, _ => by simp at hm
 | _ :: _, [], hm, _, _ => by simp at hm
 | o :: l, i :: r, hm, t, h => by
  simp only [List.map_cons, List.cons.injEq] at hm
  have ih : ∀ t h, aOps P call n ops l t h = aOps0 P call n ops r t h := aOps_eq hm.2
  show opsStep P call n ops o (aOps P call n ops l) t h = _
  simp only [aOps0, hm.1]
  unfold opsStep
  cases hw : aWant n t ops o with
  | true =>
   simp only [if_true]
   congr 1
   funext p
   cases aPut n t o.dst p.1 with
   | none => rfl
   | some t' => exact ih t' p.2
  | false =>
   simp only [Bool.false_eq_true, if_false]
   cases aPut n t o.dst undef with
   | none => rfl
   | some t' => exact ih t' h
theorem range_all (ops : Array Oper) : (List.range ops.size).map (fun i => ops[i]?) = ops.toList.map some := by
 apply List.ext_getElem?
 intro i
 simp only [List.getElem?_map, Array.getElem?_toList]
 by_cases hi : i < ops.size
 · simp [hi]
 · simp [hi]
theorem ops_ok (hN : NoCount P) {call : Call1} (hc : CallsOk w0 P call) {ops : Array Oper} {q : Option Nat} {m : Nat} {Q : Exit → Act → World → Prop} {t : T Value} {h : AH} {l : List (T Value × AH)} {φ : Phi} {a : Act} {w : World}
  (hs : aOps P call n ops ops.toList t h = some l) (r : R w0 φ h w) (f : FR φ n t a.tmps)
  (hQ : ∀ t' h' φ' a' w', (t', h') ∈ l → Nx φ φ' h h' → R w0 φ' h' w' → FR φ' n t' a'.tmps → a'.defers = a.defers → Q .normal a' w') : wpOpsIn (FW q) m P ops Q (List.range ops.size) a w :=
 ops_ok0 hN hc _ (by rw [← aOps_eq (range_all ops)]; exact hs) r f hQ
end
end Go.X
namespace Go.X
noncomputable section
open Go Go.RowKit
variable {w0 w w' : World} {φ φ' : Phi} {h h' : AH} {P : Program} {n : Nat} {t t' : T Value}
def vt (t : T Value) (s : Nat) : Value := (t.get s).getD undef
def opsL : Op → List Operand
 | .move x | .assign x | .box _ x | .load _ x | .nilCheck x | .unOp _ _ x | .convert _ _ x | .makeInterface _ x | .fieldAddr _ x _ | .field _ x _ | .range _ x | .next x _ | .entry x | .typeAssert x _ _ _ | .extract x _ => [x]
 | .pick c a b => [c, a, b]
 | .build _ ⟨ps⟩ | .buildSlice _ _ ⟨ps⟩ => ps.map (·.2)
 | .store _ a v | .binOp _ _ a v _ | .makeSlice _ a v | .indexAddr _ a v | .index _ a v | .lookup _ a v _ | .mapEntry _ a v => [a, v]
 | .makeFunc _ ⟨l⟩ ⟨m⟩ => l ++ m
 | .makeMap _ r => r.toList
 | .slice _ x l h m => x :: (l.toList ++ h.toList ++ m.toList)
 | .mapUpdate _ m k v | .entryStore _ m k v | .insert _ m k v => [m, k, v]
 | .call ⟨.value f, ⟨args⟩, _⟩ => f :: args
 | .call ⟨.invoke r _, ⟨args⟩, _⟩ => r :: args
 | .call ⟨.builtin _, ⟨args⟩, _⟩ => args
 | _ => []
def slots (o : Op) : List Nat := (opsL o).filterMap fun | .tmp k => some k | _ => none
theorem aO_congr {x : Operand} (hx : ∀ k, x = .tmp k → k < n → vt t k = vt t' k) : aO n t x = aO n t' x := by
 rw [aO_eq, aO_eq]
 cases x with
 | tmp k =>
  by_cases hk : k < n
  · have := hx k rfl hk; unfold vt at this; simp only [aEv, this]
  · simp [opnOk, hk]
 | _ => rfl
theorem slots_aO {o : Op} (hs : ∀ s, s ∈ slots o → s < n → vt t s = vt t' s) : ∀ x, x ∈ opsL o → aO n t x = aO n t' x := by
 intro x hx
 refine aO_congr (fun k e hk => hs k ?_ hk)
 subst e
 exact List.mem_filterMap.2 ⟨_, hx, rfl⟩
theorem aOs_congr : ∀ {l : List Operand}, (∀ x, x ∈ l → aO n t x = aO n t' x) → aOs n t l = aOs n t' l
 | [], _ => rfl
 | x :: l, h => by simp only [aOs]; rw [h x (by simp), aOs_congr (fun y hy => h y (by simp [hy]))]
theorem aPs_congr : ∀ {l : List (Nat × Operand)}, (∀ x, x ∈ l.map (·.2) → aO n t x = aO n t' x) → aPs n t l = aPs n t' l
 | [], _ => rfl
 | (i, x) :: l, h => by simp only [aPs]; rw [h x (by simp), aPs_congr (fun y hy => h y (by simp at hy ⊢; exact .inr hy))]
theorem aOO_congr {x : Option Operand} (h : ∀ y, y ∈ x.toList → aO n t y = aO n t' y) : aOO n t x = aOO n t' x := by
 cases x with
 | none => rfl
 | some y => simp only [aOO]; rw [h y (by simp)]
theorem aAl_congr {o : Op} (hs : ∀ s, s ∈ slots o → s < n → vt t s = vt t' s) : aAl P n t o = aAl P n t' o := by
 have hx := slots_aO (n := n) hs
 unfold aAl
 have : aAl0 P n t o = aAl0 P n t' o := by
  cases o with
  | box el x => simp only [aAl0]; rw [hx x (by simp [opsL])]
  | buildSlice T len ps => obtain ⟨ps⟩ := ps; simp only [aAl0]; rw [aPs_congr (fun y hy => hx y hy)]
  | makeSlice T l c => simp only [aAl0]; rw [hx l (by simp [opsL]), hx c (by simp [opsL])]
  | makeMap T r => cases r with
   | none => rfl
   | some x => simp only [aAl0]; rw [hx x (by simp [opsL])]
  | _ => rfl
 rw [this]
theorem aVal0_congr {o : Op} (hs : ∀ s, s ∈ slots o → s < n → vt t s = vt t' s) : aVal0 P n t h o = aVal0 P n t' h o := by
 have hx := slots_aO (n := n) hs
 cases o with
 | move x => simp only [aVal0]; rw [hx x (by simp [opsL])]
 | assign x => simp only [aVal0]; rw [hx x (by simp [opsL])]
 | pick c a b =>
  simp only [aVal0]; rw [hx c (by simp [opsL])]
  split
  · rename_i q _
    cases q
    · exact hx b (by simp [opsL])
    · exact hx a (by simp [opsL])
  · rfl
 | build T ps => obtain ⟨ps⟩ := ps; simp only [aVal0]; rw [aPs_congr (fun y hy => hx y hy)]
 | load T x => simp only [aVal0]; rw [hx x (by simp [opsL])]
 | nilCheck x => simp only [aVal0]; rw [hx x (by simp [opsL])]
 | binOp op T x y yt => simp only [aVal0]; rw [hx x (by simp [opsL]), hx y (by simp [opsL])]
 | unOp op T x => simp only [aVal0]; rw [hx x (by simp [opsL])]
 | convert s d x => simp only [aVal0]; rw [hx x (by simp [opsL])]
 | makeInterface T x => simp only [aVal0]; rw [hx x (by simp [opsL])]
 | makeFunc fn l m =>
  obtain ⟨l⟩ := l; obtain ⟨m⟩ := m
  cases fn with
  | func k => simp only [aVal0]; rw [aOs_congr (fun y hy => hx y (by simp [opsL, hy])), aOs_congr (l := m) (fun y hy => hx y (by simp [opsL, hy]))]
  | _ => rfl
 | slice T x lo hi mx =>
  simp only [aVal0]
  rw [hx x (by simp [opsL]), aOO_congr (x := lo) (fun y hy => hx y (by simp only [opsL, List.mem_cons, List.mem_append]; exact .inr (.inl (.inl hy)))),
    aOO_congr (x := hi) (fun y hy => hx y (by simp only [opsL, List.mem_cons, List.mem_append]; exact .inr (.inl (.inr hy)))), aOO_congr (x := mx) (fun y hy => hx y (by simp only [opsL, List.mem_cons, List.mem_append]; exact .inr (.inr hy)))]
 | fieldAddr s x f => simp only [aVal0]; rw [hx x (by simp [opsL])]
 | field T x f => simp only [aVal0]; rw [hx x (by simp [opsL])]
 | indexAddr T x i => simp only [aVal0]; rw [hx x (by simp [opsL]), hx i (by simp [opsL])]
 | index T x i => simp only [aVal0]; rw [hx x (by simp [opsL]), hx i (by simp [opsL])]
 | lookup T x k c => simp only [aVal0]; rw [hx x (by simp [opsL]), hx k (by simp [opsL])]
 | typeAssert x xT T c => simp only [aVal0]; rw [hx x (by simp [opsL])]
 | extract x i => simp only [aVal0]; rw [hx x (by simp [opsL])]
 | entry it => simp only [aVal0]; rw [hx it (by simp [opsL])]
 | call c =>
  obtain ⟨callee, args, Ts⟩ := c
  obtain ⟨args⟩ := args
  obtain ⟨Ts⟩ := Ts
  cases callee with
  | builtin b =>
    have hargs : ∀ y, y ∈ args → aO n t y = aO n t' y := fun y hy => hx y (by simpa [opsL] using hy)
    match args, Ts, hargs with
    | [x], [T], hargs => cases b <;> first | rfl | (simp only [aVal0]; rw [hargs x (by simp)])
    | [], _, _ => cases b <;> rfl
    | [_], [], _ => cases b <;> rfl
    | [_], _ :: _ :: _, _ => cases b <;> rfl
    | _ :: _ :: _, _, _ => cases b <;> rfl
  | _ => rfl
 | _ => rfl
theorem aVal_congr {o : Op} (hs : ∀ s, s ∈ slots o → s < n → vt t s = vt t' s) : aVal P n t h o = aVal P n t' h o := by
 rw [aVal_eq, aVal_eq]; exact aVal0_congr hs
theorem aAct0_congr {o : Op} (hs : ∀ s, s ∈ slots o → s < n → vt t s = vt t' s) : aAct0 P n t h o = aAct0 P n t' h o := by
 have hx := slots_aO (n := n) hs
 cases o with
 | store T a x => simp only [aAct0]; rw [hx a (by simp [opsL]), hx x (by simp [opsL])]
 | mapUpdate T m k x => simp only [aAct0]; rw [hx m (by simp [opsL]), hx k (by simp [opsL]), hx x (by simp [opsL])]
 | insert T m k x => simp only [aAct0]; rw [hx m (by simp [opsL]), hx k (by simp [opsL]), hx x (by simp [opsL])]
 | mapEntry T m k => simp only [aAct0]; rw [hx m (by simp [opsL]), hx k (by simp [opsL])]
 | entryStore T m k x => simp only [aAct0]; rw [hx m (by simp [opsL]), hx k (by simp [opsL]), hx x (by simp [opsL])]
 | range T x => simp only [aAct0]; rw [hx x (by simp [opsL])]
 | next it b => simp only [aAct0]; rw [hx it (by simp [opsL])]
 | convert s d x => simp only [aAct0]; rw [hx x (by simp [opsL])]
 | call c =>
  obtain ⟨callee, args, Ts⟩ := c
  obtain ⟨args⟩ := args
  obtain ⟨Ts⟩ := Ts
  cases callee with
  | builtin b =>
   simp only [aAct0]; rw [aOs_congr (fun y hy => hx y (by simpa [opsL] using hy))]
  | _ => rfl
 | _ => rfl
theorem aAct_congr {o : Op} (hs : ∀ s, s ∈ slots o → s < n → vt t s = vt t' s) : aAct P n t h o = aAct P n t' h o := by
 rw [aAct_eq, aAct_eq]; exact aAct0_congr hs
theorem aCallO_congr {o : Op} (hs : ∀ s, s ∈ slots o → s < n → vt t s = vt t' s) : aCallO P n t h o = aCallO P n t' h o := by
 have hx := slots_aO (n := n) hs
 cases o with
 | call c =>
  obtain ⟨callee, args, Ts⟩ := c
  obtain ⟨args⟩ := args
  cases callee with
  | value f => simp only [aCallO]; rw [hx f (by simp [opsL]), aOs_congr (fun y hy => hx y (by simp [opsL, hy]))]
  | invoke r nm => simp only [aCallO]; rw [hx r (by simp [opsL]), aOs_congr (fun y hy => hx y (by simp [opsL, hy]))]
  | builtin b => rfl
 | _ => rfl
theorem aOp_congr {o : Op} (hs : ∀ s, s ∈ slots o → s < n → vt t s = vt t' s) : aOp P n t h o = aOp P n t' h o := by
 unfold aOp
 rw [aAl_congr hs, aVal_congr hs, aAct_congr hs, aCallO_congr hs]
theorem aStep_congr {call : Call1} {o : Op} (hs : ∀ s, s ∈ slots o → s < n → vt t s = vt t' s) : aStep P call n t h o = aStep P call n t' h o := by
 unfold aStep; rw [aOp_congr hs]
def gslot (ops : Array Oper) (o : Oper) : Option Nat := match o.guard with
 | some (j, _) => (ops[j]?).bind (·.dst)
 | none => none
theorem aWant_congr {ops : Array Oper} {o : Oper} (hs : ∀ s, gslot ops o = some s → s < n → vt t s = vt t' s) : aWant n t ops o = aWant n t' ops o := by
 unfold aWant
 unfold gslot at hs
 cases hg : o.guard with
 | none => rfl
 | some p =>
  obtain ⟨j, b⟩ := p
  rw [hg] at hs
  dsimp only at hs ⊢
  have : aYd n t ops j = aYd n t' ops j := by
   unfold aYd
   cases ho : ops[j]? with
   | none => rfl
   | some o' =>
    dsimp only
    cases hd : o'.dst with
    | none => rfl
    | some d =>
     have h1 := hs d (by rw [ho]; exact hd)
     dsimp only
     split
     · rename_i hdn
       have h1 := h1 hdn
       unfold vt at h1
       cases h2 : t.get d with
       | none =>
        rw [h2] at h1
        cases h3 : t'.get d with
        | none => rfl
        | some u =>
         rw [h3] at h1
         simp only [Option.getD_none, Option.getD_some] at h1
         rw [← h1]; rfl
       | some v =>
        rw [h2] at h1
        cases h3 : t'.get d with
        | none =>
         rw [h3] at h1
         simp only [Option.getD_none, Option.getD_some] at h1
         rw [h1]; rfl
        | some u =>
         rw [h3] at h1
         simp only [Option.getD_some] at h1
         rw [h1]
     · rfl
  rw [this]
def opK : Op → Nat
 | .move _ | .assign _ | .pick _ _ _ | .build _ _ | .nilCheck _ | .unOp _ _ _ | .makeInterface _ _ | .makeFunc _ _ _ | .fieldAddr _ _ _ | .field _ _ _ | .indexAddr _ _ _ | .index _ _ _ | .typeAssert _ _ _ _ | .extract _ _ => 1
 | .load _ _ | .binOp _ _ _ _ _ | .convert _ _ _ | .slice _ _ _ _ _ | .lookup _ _ _ _ => 2
 | .call ⟨.builtin .len, _, _⟩ | .call ⟨.builtin .cap, _, _⟩ => 2
 | .alloc _ | .box _ _ | .buildSlice _ _ _ | .makeSlice _ _ _ | .makeMap _ _ => 3
 | _ => 0
theorem aVal0_pure {o : Op} (hk : opK o = 1) : aVal0 P n t h o = aVal0 P n t h' o := by
 cases o with
 | build T ps => obtain ⟨ps⟩ := ps; rfl
 | makeFunc fn l m => obtain ⟨l⟩ := l; obtain ⟨m⟩ := m; cases fn <;> rfl
 | call c =>
  obtain ⟨callee, args, Ts⟩ := c
  cases callee with
  | builtin b => cases b <;> simp [opK] at hk
  | _ => simp [opK] at hk
 | _ => first | rfl | (simp [opK] at hk; done)
theorem aVal_pure {o : Op} (hk : opK o = 1) : aVal P n t h o = aVal P n t h' o := by
 rw [aVal_eq, aVal_eq]; exact aVal0_pure hk
def edgesOf (o : Oper) : List Nat := (o.after.toList.filter fun e => Region.binds .any e).map (·.on)
def isE (ops : Array Oper) (j : Nat) : Bool := match ops[j]? with | some o => opK o.op == 0 | none => false
def step1 (ops : Array Oper) (ls : List Nat) (j : Nat) : Nat := ls.getD j 0 + if isE ops j then 1 else 0
def maxL : List Nat → Nat
 | [] => 0
 | x :: l => max x (maxL l)
def levL (ops : Array Oper) : List Nat := ops.toList.foldl (fun ls o => ls ++ [maxL ((edgesOf o).map (step1 ops ls))]) []
def orL : List Nat → Nat
 | [] => 0
 | x :: l => x ||| orL l
def maskL (ops : Array Oper) : List Nat := ops.toList.foldl (fun ms o => ms ++ [orL ((edgesOf o).map fun j => 2 ^ j ||| ms.getD j 0)]) []
def dstAt (ops : Array Oper) (j : Nat) : Option Nat := (ops[j]?).bind (·.dst)
def edgeTo (ops : Array Oper) (i j : Nat) : Bool := match ops[i]? with | some o => (edgesOf o).contains j | none => false
def opOk (n : Nat) (ops : Array Oper) (ls ms : List Nat) (i : Nat) : Bool := match ops[i]? with
  | none => false
  | some o =>
    (edgesOf o).all (fun j => decide (j < i) && decide (step1 ops ls j ≤ ls.getD i 0)) &&
    (decide (ls.getD i 0 = 0) || (edgesOf o).any fun j => decide (step1 ops ls j = ls.getD i 0)) &&
    (!isE ops i || (List.range i).all fun j => !isE ops j || decide (ls.getD j 0 < ls.getD i 0)) &&
    (match o.dst with
     | none => true
     | some d => decide (d < n) && (List.range ops.size).all fun j => decide (j = i) || (dstAt ops j != some d)) &&
    (slots o.op).all (fun s => (List.range ops.size).all fun j => (dstAt ops j != some s) || edgeTo ops i j || (edgeTo ops j i && decide (opK o.op ≠ 2))) &&
    (match o.guard with
     | none => true
     | some (g, _) => (edgesOf o).contains g) &&
    decide (ms.getD i 0 = orL ((edgesOf o).map fun j => 2 ^ j ||| ms.getD j 0))
def planOk (n : Nat) (ops : Array Oper) (ls ms : List Nat) : Bool := (List.range ops.size).all (opOk n ops ls ms)
def veq : Nat → Value → Value → Bool
 | _, .bool a, .bool b => a == b
 | _, .int k a, .int j b => decide (k = j) && decide (a = b)
 | _, .float k a, .float j b => decide (k = j) && decide (a = b)
 | _, .string a, .string b => decide (a.data.toList = b.data.toList)
 | _, .pointer none, .pointer none => true
 | _, .pointer (some a), .pointer (some b) => decide (a = b)
 | _, .slice a l c, .slice b m d => decide (a = b) && decide (l = m) && decide (c = d)
 | _, .map a, .map b => decide (a = b)
 | _, .nilFunc, .nilFunc => true
 | _, .nilIface, .nilIface => true
 | k + 1, .func (.func f) ⟨a⟩ ⟨b⟩, .func (.func g) ⟨c⟩ ⟨d⟩ => decide (f = g) && lst (veq k) a c && lst (veq k) b d
 | k + 1, .iface t v, .iface u w => decide (t = u) && veq k v w
 | k + 1, .agg ⟨a⟩, .agg ⟨b⟩ => lst (veq k) a b
 | k + 1, .tuple ⟨a⟩, .tuple ⟨b⟩ => lst (veq k) a b
 | _, _, _ => false
where lst (f : Value → Value → Bool) : List Value → List Value → Bool
 | [], [] => true
 | x :: l, y :: m => f x y && lst f l m
 | _, _ => false
theorem lst_eq {f : Value → Value → Bool} (hf : ∀ x y, f x y = true → x = y) : ∀ (l m : List Value), veq.lst f l m = true → l = m
 | [], [], _ => rfl
 | x :: l, y :: m, h => by
  simp only [veq.lst, Bool.and_eq_true] at h
  rw [hf x y h.1, lst_eq hf l m h.2]
 | [], _ :: _, h => by simp [veq.lst] at h
 | _ :: _, [], h => by simp [veq.lst] at h
theorem bytes_eq {a b : ByteArray} (h : a.data.toList = b.data.toList) : a = b := by
 apply ByteArray.ext
 exact Array.ext' h
theorem veq_eq : ∀ (k : Nat) (v w : Value), veq k v w = true → v = w := by
 intro k
 induction k with
 | zero =>
  intro v w hv
  unfold veq at hv
  split at hv
  all_goals first
    | rfl
    | (simp at hv; done)
    | (simp only [Bool.and_eq_true, decide_eq_true_eq, beq_iff_eq] at hv; subst hv; rfl)
    | (simp only [Bool.and_eq_true, decide_eq_true_eq] at hv; rw [bytes_eq hv]; done)
    | (simp only [Bool.and_eq_true, decide_eq_true_eq] at hv; obtain ⟨h1, h2⟩ := hv; subst h1; subst h2; rfl)
    | (simp only [Bool.and_eq_true, decide_eq_true_eq] at hv; obtain ⟨⟨h1, h2⟩, h3⟩ := hv; subst h1; subst h2; subst h3; rfl)
    | (rename_i e; cases e)
 | succ k ih =>
  intro v w hv
  unfold veq at hv
  split at hv
  all_goals first
    | rfl
    | (simp at hv; done)
    | (simp only [Bool.and_eq_true, decide_eq_true_eq, beq_iff_eq] at hv; subst hv; rfl)
    | (simp only [Bool.and_eq_true, decide_eq_true_eq] at hv; rw [bytes_eq hv]; done)
    | (simp only [Bool.and_eq_true, decide_eq_true_eq] at hv; obtain ⟨h1, h2⟩ := hv; subst h1; subst h2; rfl)
    | (simp only [Bool.and_eq_true, decide_eq_true_eq] at hv; obtain ⟨⟨h1, h2⟩, h3⟩ := hv; subst h1; subst h2; subst h3; rfl)
    | skip
  · rename_i e
    cases e
    simp only [Bool.and_eq_true, decide_eq_true_eq] at hv
    obtain ⟨⟨h1, h2⟩, h3⟩ := hv
    rw [h1, lst_eq ih _ _ h2, lst_eq ih _ _ h3]
  · rename_i e
    cases e
    simp only [Bool.and_eq_true, decide_eq_true_eq] at hv
    obtain ⟨h1, h2⟩ := hv
    rw [h1, ih _ _ h2]
  · rename_i e
    cases e
    rw [lst_eq ih _ _ hv]
  · rename_i e
    cases e
    rw [lst_eq ih _ _ hv]
end
end Go.X
namespace Go.X
noncomputable section
open Go Go.RowKit
variable {w0 w w' : World} {φ φ' : Phi} {h h' : AH} {P : Program} {n : Nat} {t t' : T Value} {ops : Array Oper} {ls ms : List Nat}
structure PlanSpec (n : Nat) (ops : Array Oper) (ls ms : List Nat) : Prop where
 edge : ∀ (i : Nat) (o : Oper) (j : Nat), ops[i]? = some o → j ∈ edgesOf o → j < i ∧ step1 ops ls j ≤ ls.getD i 0
 att : ∀ (i : Nat) (o : Oper), ops[i]? = some o → ls.getD i 0 = 0 ∨ ∃ j, j ∈ edgesOf o ∧ step1 ops ls j = ls.getD i 0
 tot : ∀ (i j : Nat), i < ops.size → isE ops i = true → isE ops j = true → j < i → ls.getD j 0 < ls.getD i 0
 dst : ∀ (i d : Nat), dstAt ops i = some d → d < n ∧ ∀ j, dstAt ops j = some d → j = i
 slot : ∀ (i : Nat) (o : Oper) (s j : Nat), ops[i]? = some o → s ∈ slots o.op → dstAt ops j = some s → j ∈ edgesOf o ∨ (edgeTo ops j i = true ∧ opK o.op ≠ 2)
 guard : ∀ (i : Nat) (o : Oper) (g : Nat) (b : Bool), ops[i]? = some o → o.guard = some (g, b) → g ∈ edgesOf o
 mask : ∀ (i : Nat) (o : Oper), ops[i]? = some o → ms.getD i 0 = orL ((edgesOf o).map fun j => 2 ^ j ||| ms.getD j 0)
theorem dstAt_lt {i d : Nat} (hd : dstAt ops i = some d) : i < ops.size := by
 unfold dstAt at hd
 cases ho : ops[i]? with
 | none => rw [ho] at hd; cases hd
 | some o => exact (Array.getElem?_eq_some_iff.1 ho).1
theorem dstAt_eq {i : Nat} {o : Oper} (ho : ops[i]? = some o) : dstAt ops i = o.dst := by unfold dstAt; rw [ho]; rfl
theorem plan_spec (hp : planOk n ops ls ms = true) : PlanSpec n ops ls ms := by
 unfold planOk at hp
 rw [List.all_eq_true] at hp
 have key : ∀ (i : Nat) (o : Oper), ops[i]? = some o → opOk n ops ls ms i = true := fun i o ho => hp i (List.mem_range.2 (Array.getElem?_eq_some_iff.1 ho).1)
 have un : ∀ (i : Nat) (o : Oper), ops[i]? = some o → _ := fun i o ho => by
   have := key i o ho
   unfold opOk at this
   rw [ho] at this
   simp only [Bool.and_eq_true] at this
   exact this
 refine ⟨fun i o j ho hj => ?_, fun i o ho => ?_, fun i j hi hE hE' hlt => ?_, fun i d hd => ?_, fun i o s j ho hs hd => ?_, fun i o g b ho hg => ?_, fun i o ho => ?_⟩
 · obtain ⟨⟨⟨⟨⟨⟨h1, h2⟩, h3⟩, h4⟩, h5⟩, h6⟩, h7⟩ := un i o ho
   have := List.all_eq_true.1 h1 j hj
   simpa using this
 · obtain ⟨⟨⟨⟨⟨⟨h1, h2⟩, h3⟩, h4⟩, h5⟩, h6⟩, h7⟩ := un i o ho
   simp only [Bool.or_eq_true, decide_eq_true_eq, List.any_eq_true] at h2
   exact h2
 · have ho : ops[i]? = some ops[i] := Array.getElem?_eq_getElem hi
   obtain ⟨⟨⟨⟨⟨⟨h1, h2⟩, h3⟩, h4⟩, h5⟩, h6⟩, h7⟩ := un i _ ho
   rw [hE] at h3
   simp only [Bool.not_true, Bool.false_or, List.all_eq_true] at h3
   have := h3 j (List.mem_range.2 hlt)
   rw [hE'] at this
   simpa using this
 · have hi := dstAt_lt hd
   have ho : ops[i]? = some ops[i] := Array.getElem?_eq_getElem hi
   obtain ⟨⟨⟨⟨⟨⟨h1, h2⟩, h3⟩, h4⟩, h5⟩, h6⟩, h7⟩ := un i _ ho
   rw [dstAt_eq ho] at hd
   rw [hd] at h4
   simp only [Bool.and_eq_true, decide_eq_true_eq, List.all_eq_true] at h4
   refine ⟨h4.1, fun j hj => ?_⟩
   have := h4.2 j (List.mem_range.2 (dstAt_lt hj))
   rw [hj] at this
   simpa using this
 · obtain ⟨⟨⟨⟨⟨⟨h1, h2⟩, h3⟩, h4⟩, h5⟩, h6⟩, h7⟩ := un i o ho
   have := List.all_eq_true.1 (List.all_eq_true.1 h5 s hs) j (List.mem_range.2 (dstAt_lt hd))
   rw [hd] at this
   simp only [bne_self_eq_false, Bool.false_or, Bool.or_eq_true, Bool.and_eq_true, decide_eq_true_eq] at this
   rcases this with h8 | h8
   · left
     unfold edgeTo at h8
     rw [ho] at h8
     simpa using h8
   · exact .inr h8
 · obtain ⟨⟨⟨⟨⟨⟨h1, h2⟩, h3⟩, h4⟩, h5⟩, h6⟩, h7⟩ := un i o ho
   rw [hg] at h6
   simpa using h6
 · obtain ⟨⟨⟨⟨⟨⟨h1, h2⟩, h3⟩, h4⟩, h5⟩, h6⟩, h7⟩ := un i o ho
   simpa using h7
theorem testBit_orL {l : List Nat} {i : Nat} (hb : (orL l).testBit i = true) : ∃ x, x ∈ l ∧ x.testBit i = true := by
 induction l with
 | nil => simp [orL] at hb
 | cons x l ih =>
  simp only [orL, Nat.testBit_or, Bool.or_eq_true] at hb
  rcases hb with hb | hb
  · exact ⟨x, by simp, hb⟩
  · obtain ⟨y, h1, h2⟩ := ih hb; exact ⟨y, by simp [h1], h2⟩
theorem mask_listed (sp : PlanSpec n ops ls ms) {L : Nat → Prop} (hcl : ∀ (i : Nat) (o : Oper), L i → ops[i]? = some o → ∀ j, j ∈ edgesOf o → L j) : ∀ (i k : Nat), L i → i < ops.size → (ms.getD i 0).testBit k = true → L k := by
 intro i
 induction i using Nat.strongRecOn with
 | _ i ih =>
  intro k hi hlt hb
  have ho : ops[i]? = some ops[i] := Array.getElem?_eq_getElem hlt
  rw [sp.mask i _ ho] at hb
  obtain ⟨x, hx, hxb⟩ := testBit_orL hb
  obtain ⟨j, hj, rfl⟩ := List.mem_map.1 hx
  have hji := (sp.edge i _ j ho hj).1
  have hLj := hcl i _ hi ho j hj
  rw [Nat.testBit_or, Bool.or_eq_true] at hxb
  rcases hxb with h1 | h1
  · rw [Nat.testBit_two_pow] at h1
    have : j = k := by simpa using h1
    subst this; exact hLj
  · exact ih j hji k hLj (by omega) h1
def aN (P : Program) (n : Nat) (t : T Value) (h : AH) (o : Op) : Option (Value × AH) :=
 if opK o = 3 then (match aAl P n t o with
  | some (al, mk) => (match h.newAl al with
   | some (b, h') => some (mk.val b, h')
   | none => none)
  | none => none)
 else if opK o = 0 then none else (match aVal P n t h o with
  | some v => some (v, h)
  | none => none)
def aNs (P : Program) (n : Nat) (ops : Array Oper) : List Nat → T Value → AH → Option (T Value × AH)
 | [], t, h => some (t, h)
 | i :: r, t, h => match ops[i]? with
  | none => none
  | some o => if aWant n t ops o then (match aN P n t h o.op with
    | some (v, h') => (match aPut n t o.dst v with
     | some t' => aNs P n ops r t' h'
     | none => none)
    | none => none)
   else (match aPut n t o.dst undef with
    | some t' => aNs P n ops r t' h
    | none => none)
theorem vt_put {d : Option Tmp} {v : Value} (hs : aPut n t d v = some t') (_hn : T.Ok (n)) (s : Nat) : vt t' s = if d = some s then v else vt t s := by
 rw [aPut_eq] at hs
 cases d with
 | none => cases hs; simp
 | some d =>
  dsimp only at hs
  split at hs
  · rename_i hd
    cases hs
    unfold vt
    rw [T.get_set]
    by_cases e : s = d
    · subst e; simp
    · rw [if_neg e, if_neg (by intro x; cases x; exact e rfl)]
  · cases hs
def NFact (P : Program) (n : Nat) (ops : Array Oper) (o : Oper) (tt : T Value) (hh : AH) (t1 : T Value) (h1 : AH) (b : Nat) : Prop :=
 (aWant n tt ops o = true ∧ (((opK o.op = 1 ∨ opK o.op = 2) ∧ ∃ v, aVal P n tt hh o.op = some v ∧ ∀ d, o.dst = some d → vt t1 d = v) ∨
  (opK o.op = 3 ∧ ∃ al mk, aAl P n tt o.op = some (al, mk) ∧ b < h1.next ∧ h1.m.get b = some al.obj ∧ ∀ d, o.dst = some d → vt t1 d = mk.val b))) ∨
 (aWant n tt ops o = false ∧ ∀ d, o.dst = some d → vt t1 d = undef)
theorem opK_le (o : Op) : opK o ≤ 3 := by unfold opK; split <;> omega
theorem aNs_spec (sp : PlanSpec n ops ls ms) (hn : T.Ok (n)) : ∀ (r : List Nat) {t : T Value} {h : AH} {t1 : T Value} {h1 : AH}, r.Pairwise (· < ·) → aNs P n ops r t h = some (t1, h1) → T.Ok (h.next) →
  (h.next ≤ h1.next ∧ T.Ok (h1.next) ∧ ∀ b, b < h.next → h1.m.get b = h.m.get b) ∧
  (∀ s, (∀ i, i ∈ r → dstAt ops i ≠ some s) → vt t1 s = vt t s) ∧
  ∃ b : Nat → Nat, (∀ i, i ∈ r → ((h.next ≤ b i / 2 ∧ b i / 2 < h1.next ∧ b i % 2 = 0) ∨ b i = 2 * i + 1) ∧ ∃ o tt hh, ops[i]? = some o ∧ (∀ s, (∀ j, j ∈ r → j < i → dstAt ops j ≠ some s) → vt tt s = vt t s) ∧
   (∀ s j, j ∈ r → j < i → dstAt ops j = some s → vt tt s = vt t1 s) ∧ NFact P n ops o tt hh t1 h1 (b i / 2) ∧ (opK o.op = 3 → aWant n tt ops o = true → b i % 2 = 0)) ∧ (∀ i j, i ∈ r → j ∈ r → i ≠ j → b i ≠ b j)
 | [], t, h, t1, h1, _, hs, ht => by
  simp only [aNs] at hs; cases hs
  exact ⟨⟨Nat.le_refl _, ht, fun _ _ => rfl⟩, fun _ _ => rfl, fun _ => 0, fun i hi => by simp at hi, fun i j hi => by simp at hi⟩
 | i :: r, t, h, t1, h1, hpw, hs, ht => by
  simp only [aNs] at hs
  have hpw' := List.pairwise_cons.1 hpw
  cases ho : ops[i]? with
  | none => rw [ho] at hs; cases hs
  | some o =>
   rw [ho] at hs
   dsimp only at hs
   have hdi := dstAt_eq ho
   -- the rest, from what the first leaves
   have rest : ∀ {v : Value} {t2 : T Value} {h2 : AH} {bi : Nat}, aPut n t o.dst v = some t2 → aNs P n ops r t2 h2 = some (t1, h1) → h.next ≤ h2.next → T.Ok (h2.next) → (∀ b, b < h.next → h2.m.get b = h.m.get b) →
       ((h.next ≤ bi / 2 ∧ bi / 2 < h2.next ∧ bi % 2 = 0) ∨ bi = 2 * i + 1) → (∀ t1 h1, (∀ d, o.dst = some d → vt t1 d = v) → h2.next ≤ h1.next → (∀ b, b < h2.next → h1.m.get b = h2.m.get b) → NFact P n ops o t h t1 h1 (bi / 2)) → (opK o.op = 3 → aWant n t ops o = true → bi % 2 = 0) →
       (h.next ≤ h1.next ∧ T.Ok (h1.next) ∧ ∀ b, b < h.next → h1.m.get b = h.m.get b) ∧
       (∀ s, (∀ k, k ∈ i :: r → dstAt ops k ≠ some s) → vt t1 s = vt t s) ∧
       ∃ b : Nat → Nat, (∀ k, k ∈ i :: r → ((h.next ≤ b k / 2 ∧ b k / 2 < h1.next ∧ b k % 2 = 0) ∨ b k = 2 * k + 1) ∧ ∃ o tt hh, ops[k]? = some o ∧ (∀ s, (∀ j, j ∈ i :: r → j < k → dstAt ops j ≠ some s) → vt tt s = vt t s) ∧
         (∀ s j, j ∈ i :: r → j < k → dstAt ops j = some s → vt tt s = vt t1 s) ∧ NFact P n ops o tt hh t1 h1 (b k / 2) ∧ (opK o.op = 3 → aWant n tt ops o = true → b k % 2 = 0)) ∧ (∀ k j, k ∈ i :: r → j ∈ i :: r → k ≠ j → b k ≠ b j) := by
     intro v t2 h2 bi hput hrest hle ht2 hget hbi hfact hpar
     have hv := vt_put hput hn
     obtain ⟨⟨a1, a2, a3⟩, a4, b, a5, a6⟩ := aNs_spec sp hn r hpw'.2 hrest ht2
     have hdst : ∀ d, o.dst = some d → vt t1 d = v := by
       intro d hd
       rw [a4 d (fun k hk hkd => by
         have := (sp.dst i d (by rw [hdi]; exact hd)).2 k hkd
         have := hpw'.1 k hk
         omega), hv, if_pos hd]
     refine ⟨⟨Nat.le_trans hle a1, a2, fun b hb => (a3 b (by omega)).trans (hget b hb)⟩, fun s hs => ?_, fun k => if k = i then bi else b k, fun k hk => ?_, fun k j hk hj hkj => ?_⟩
     · rw [a4 s (fun k hk => hs k (List.mem_cons_of_mem _ hk)), hv, if_neg (fun e => hs i (by simp) (by rw [hdi]; exact e))]
     · by_cases e : k = i
       · subst e
         simp only [if_true]
         refine ⟨?_, o, t, h, ho, fun s _ => rfl, fun s j hj hlt hd => ?_, hfact t1 h1 hdst a1 a3, hpar⟩
         · rcases hbi with hbi | hbi
           · exact .inl ⟨hbi.1, by omega, hbi.2.2⟩
           · exact .inr hbi
         · rcases List.mem_cons.1 hj with hj | hj
           · omega
           · have := hpw'.1 j hj; omega
       · have hkr : k ∈ r := by rcases List.mem_cons.1 hk with hk | hk; exact (e hk).elim; exact hk
         dsimp only
         rw [if_neg e]
         obtain ⟨c1, o', tt, hh, c2, c3, c4, c5⟩ := a5 k hkr
         refine ⟨by rcases c1 with c1 | c1; exact .inl ⟨by omega, c1.2⟩; exact .inr c1, o', tt, hh, c2, fun s hs => ?_, fun s j hj hlt hd => ?_, c5⟩
         · rw [c3 s (fun j hj hlt => hs j (List.mem_cons_of_mem _ hj) hlt), hv, if_neg (fun e2 => hs i (by simp) (hpw'.1 k hkr) (by rw [hdi]; exact e2))]
         · rcases List.mem_cons.1 hj with hj | hj
           · subst hj
             have hod : o.dst = some s := by rw [← hdi]; exact hd
             rw [c3 s (fun j2 hj2 _ hd2 => by
               have := (sp.dst j s hd).2 j2 hd2
               have := hpw'.1 j2 hj2
               omega), hv, if_pos hod, hdst s hod]
           · exact c4 s j hj hlt hd
     · dsimp only
       by_cases e : k = i
       · by_cases e2 : j = i
         · exact (hkj (e.trans e2.symm)).elim
         · have hjr : j ∈ r := by rcases List.mem_cons.1 hj with hj | hj; exact (e2 hj).elim; exact hj
           rw [if_pos e, if_neg e2]
           have c1 := (a5 j hjr).1
           have := hpw'.1 j hjr
           rcases hbi with hbi | hbi <;> rcases c1 with c1 | c1 <;> omega
       · have hkr : k ∈ r := by rcases List.mem_cons.1 hk with hk | hk; exact (e hk).elim; exact hk
         rw [if_neg e]
         by_cases e2 : j = i
         · rw [if_pos e2]
           have c1 := (a5 k hkr).1
           have := hpw'.1 k hkr
           rcases hbi with hbi | hbi <;> rcases c1 with c1 | c1 <;> omega
         · have hjr : j ∈ r := by rcases List.mem_cons.1 hj with hj | hj; exact (e2 hj).elim; exact hj
           rw [if_neg e2]
           exact a6 k j hkr hjr hkj
   split at hs
   · rename_i hw
     split at hs
     · rename_i v h2 hN
       split at hs
       · rename_i t2 hput
         unfold aN at hN
         split at hN
         · rename_i hk
           split at hN
           · rename_i al mk hal
             split at hN
             · rename_i b h3 hna
               cases hN
               unfold AH.newAl at hna
               split at hna
               · rename_i _
                 cases hna
                 have e2 : 2 * h.next / 2 = h.next := by omega
                 refine rest (bi := 2 * h.next) hput hs (Nat.le_succ _) trivial (fun b hb => ?_) (.inl ⟨by rw [e2]; exact Nat.le_refl _, by rw [e2]; exact Nat.lt_succ_self _, by omega⟩) (fun t1 h1 hd hle hg => .inl ⟨hw, .inr ⟨hk, al, mk, hal, by rw [e2]; exact Nat.lt_of_lt_of_le (Nat.lt_succ_self _) hle, ?_, by rw [e2]; exact hd⟩⟩) (fun _ _ => by omega)
                 · show (h.m.set h.next (some al.obj)).get b = _
                   rw [T.get_set, if_neg (by omega)]
                 · rw [e2, hg h.next (Nat.lt_succ_self _)]
                   show (h.m.set h.next (some al.obj)).get h.next = _
                   rw [T.get_set, if_pos rfl]
               · cases hna
             · cases hN
           · cases hN
         · rename_i hk
           split at hN
           · cases hN
           · rename_i hk0
             split at hN
             · rename_i v' hv
               cases hN
               have hk12 : opK o.op = 1 ∨ opK o.op = 2 := by have := opK_le o.op; omega
               exact rest (bi := 2 * i + 1) hput hs (Nat.le_refl _) ht (fun _ _ => rfl) (.inr rfl) (fun t1 h1 hd _ _ => .inl ⟨hw, .inl ⟨hk12, _, hv, hd⟩⟩) (fun hk3 _ => by omega)
             · cases hN
       · cases hs
     · cases hs
   · rename_i hw
     split at hs
     · rename_i t2 hput
       exact rest (bi := 2 * i + 1) hput hs (Nat.le_refl _) ht (fun _ _ => rfl) (.inr rfl) (fun t1 h1 hd _ _ => .inr ⟨by simpa using hw, hd⟩) (fun _ hw2 => absurd hw2 (by simpa using hw))
     · cases hs
end
end Go.X
namespace Go.X
noncomputable section
open Go Go.RowKit
variable {w0 w w' : World} {φ φ' φ0 : Phi} {h h' h0 h1 h2 : AH} {P : Program} {n : Nat} {t t' tb t1 t2 : T Value} {ops : Array Oper} {ls ms : List Nat}
def lvN (ops : Array Oper) (ls : List Nat) (L : Nat) : List Nat := (List.range ops.size).filter fun i => !isE ops i && decide (ls.getD i 0 = L)
def lvE (ops : Array Oper) (ls : List Nat) (L : Nat) : Option Nat := (List.range ops.size).find? fun i => isE ops i && decide (ls.getD i 0 = L)
open Classical in
def propB (p : Prop) : Bool := decide p
open Classical in
theorem propB_true {p : Prop} (h : p) : propB p = true := by unfold propB; exact decide_eq_true h
open Classical in
theorem propB_of {p : Prop} (h : propB p = true) : p := by unfold propB at h; exact of_decide_eq_true h
def recheck (P : Program) (n : Nat) (ops : Array Oper) (l : List Nat) (t : T Value) (h : AH) : Bool := l.all fun i => match ops[i]? with
 | none => true
 | some o => if opK o.op = 2 then (if aWant n t ops o then (match aVal P n t h o.op, o.dst with
  | some v, some d => veq 9 v (vt t d) || propB (v = vt t d)
  | some _, none => true
  | none, _ => false) else true) else true
def aCont (P : Program) (call : Call1) (n : Nat) (ops : Array Oper) (ls ms : List Nat) (rec : Nat → List Nat → T Value → AH → Option (List (T Value × AH))) (L : Nat) (seen : List Nat) (t : T Value) (h : AH) : Option (List (T Value × AH)) :=
 match lvE ops ls L with
 | none => some [(t, h)]
 | some e => match ops[e]? with
  | none => none
  | some o => if aWant n t ops o then bindL (aStep P call n t h o.op) fun p => (match aPut n t o.dst p.1 with
    | some t2 => rec (L + 1) ((seen ++ lvN ops ls L).filter fun i => !(ms.getD e 0).testBit i) t2 p.2
    | none => none)
   else (match aPut n t o.dst undef with
    | some t2 => rec (L + 1) ((seen ++ lvN ops ls L).filter fun i => !(ms.getD e 0).testBit i) t2 h
    | none => none)
def aLv (P : Program) (call : Call1) (n : Nat) (ops : Array Oper) (ls ms : List Nat) : Nat → Nat → List Nat → T Value → AH → Option (List (T Value × AH))
 | 0, _, _, _, _ => none
 | k + 1, L, seen, t, h => match aNs P n ops (lvN ops ls L) t h with
  | none => none
  | some (t1, h1) => if recheck P n ops (seen ++ lvN ops ls L) t1 h1 then aCont P call n ops ls ms (aLv P call n ops ls ms k) L seen t1 h1 else none
def sameOp {α : Type} (f : α → α → Bool) : Option α → Option α → Bool
 | none, none => true
 | some a, some b => f a b
 | _, _ => false
def sameT {α : Type} (f : α → α → Bool) : T α → T α → Bool
 | .e, .e => true
 | .n l v r, .n l' v' r' => sameT f l l' && (sameOp f v v' && sameT f r r')
 | _, _ => false
def sameEs : List (Value × Value × Nat) → List (Value × Value × Nat) → Bool
 | [], [] => true
 | (a, b, c) :: l, (a', b', c') :: l' => veq 9 a a' && (veq 9 b b' && (Nat.beq c c' && sameEs l l'))
 | _, _ => false
def sameNs : List Nat → List Nat → Bool
 | [], [] => true
 | a :: l, b :: m => Nat.beq a b && sameNs l m
 | _, _ => false
def sameBag : List (ByteArray × Value) → List (ByteArray × Value) → Bool
 | [], [] => true
 | (a, v) :: l, (b, u) :: m => sameB a b && (veq 9 v u && sameBag l m)
 | _, _ => false
def sameO : AObj → AObj → Bool
 | .cells c n op ro, .cells c' n' op' ro' => sameT (veq 9) c c' && (Nat.beq n n' && (Nat.beq op op' && (ro == ro')))
 | .map es cl ro, .map es' cl' ro' => sameEs es es' && (Nat.beq cl cl' && (ro == ro'))
 | .dfr, .dfr => true
 | .bag es, .bag es' => sameBag es es'
 | .tcells ty c n op, .tcells ty' c' n' op' => Nat.beq ty ty' && (sameT (veq 9) c c' && (Nat.beq n n' && Nat.beq op op'))
 | .iter m since seen st, .iter m' since' seen' st' => sameOp Nat.beq m m' && (Nat.beq since since' && (sameNs seen seen' && Nat.beq st st'))
 | .sit s p, .sit s' p' => sameBs s.data.toList s'.data.toList && Nat.beq p p'
 | _, _ => false
def sameH (h h' : AH) : Bool := Nat.beq h.next h'.next && sameT sameO h.m h'.m
def sameOut (p q : T Value × AH) : Bool := sameT (veq 9) p.1 q.1 && sameH p.2 q.2
def isReady (ops : Array Oper) (left : List Nat) (i : Nat) : Bool := match ops[i]? with
 | some o => (edgesOf o).all fun j => Nat.blt j ops.size && !left.contains j
 | none => false
def allL {α β : Type} (f : α → Option (List β)) : List α → Option (List β)
 | [] => some []
 | a :: l => (match f a, allL f l with
  | some x, some y => some (x ++ y)
  | _, _ => none)
def aAll (P : Program) (call : Call1) (n : Nat) (ops : Array Oper) : Nat → List Nat → T Value → AH → Option (List (T Value × AH))
 | _, [], t, h => some [(t, h)]
 | 0, _ :: _, _, _ => none
 | k + 1, i :: r, t, h => (match (i :: r).filter (isReady ops (i :: r)) with
  | [] => none
  | rd => allL (fun j => (match ops[j]? with
  | some o => (match aWant n t ops o with
   | true => bindL (aStep P call n t h o.op) fun p => (match aPut n t o.dst p.1 with
    | some t' => aAll P call n ops k ((i :: r).filter fun x => !Nat.beq x j) t' p.2
    | none => none)
   | false => (match aPut n t o.dst undef with
    | some t' => aAll P call n ops k ((i :: r).filter fun x => !Nat.beq x j) t' h
    | none => none))
  | none => none)) rd)
def addEdge (i : Nat) : Nat → List Oper → List Oper
 | _, [] => []
 | 0, o :: l => { o with after := ⟨o.after.toList ++ [⟨i, .data⟩]⟩ } :: l
 | k + 1, o :: l => o :: addEdge i k l
def withEdge (ops : Array Oper) (i j : Nat) : Array Oper := ⟨addEdge i j ops.toList⟩
abbrev Fk := Nat → T Value → AH → Option (List (T Value × AH))
def mergeO (lo o : List (T Value × AH)) : List (T Value × AH) := lo ++ o.filter fun x => !(lo.any fun y => sameOut x y)
def fLv (P : Program) (call : Call1) (n : Nat) (ops : Array Oper) (ls ms : List Nat) (fk : Fk) : Nat → Nat → List Nat → T Value → AH → Option (List (T Value × AH))
 | 0, _, _, _, _ => none
 | k + 1, L, seen, t, h => match aNs P n ops (lvN ops ls L) t h with
  | none => none
  | some (t1, h1) => if recheck P n ops (seen ++ lvN ops ls L) t1 h1 then (match fk L t1 h1, aCont P call n ops ls ms (fLv P call n ops ls ms fk k) L seen t1 h1 with
   | some o, some lo => some (mergeO lo o)
   | _, _ => none) else none
def setSlot (ops : Array Oper) (t1 : T Value) (k : Nat) (t : T Value) : T Value := match dstAt ops k with
 | some d => t.set d (some (vt t1 d))
 | none => t
def setSlots (ops : Array Oper) (t1 : T Value) : List Nat → T Value → T Value
 | [], t => t
 | k :: r, t => setSlots ops t1 r (setSlot ops t1 k t)
def subs : List Nat → List (List Nat)
 | [] => [[]]
 | x :: l => subs l ++ (subs l).map (x :: ·)
def cands (ops : Array Oper) (ls : List Nat) (L : Nat) : List (List Nat) :=
 ((subs ((List.range ops.size).filter fun k => !isE ops k)).map fun U => (List.range ops.size).filter fun k => if isE ops k then Nat.ble L (ls.getD k 0) else U.contains k).filter
  fun left => (List.range ops.size).all fun k => left.contains k || (match ops[k]? with
   | some o => (edgesOf o).all fun j => !left.contains j
   | none => true)
def pairOk (ops : Array Oper) (ls : List Nat) (i j : Nat) : Bool := isE ops i && (Nat.beq (ls.getD i 0) 0 || (match ops[j]? with
 | some o => (edgesOf o).any fun e => decide (step1 ops ls e = ls.getD i 0)
 | none => false))
def aFork (P : Program) (call : Call1) (n : Nat) (ops : Array Oper) (ls : List Nat) (i : Nat) (tb : T Value) : Fk := fun L t1 h1 =>
 if Nat.beq L (ls.getD i 0) then allL (fun left => aAll P call n ops ops.size left (setSlots ops t1 ((List.range ops.size).filter fun k => !left.contains k) tb) h1) (cands ops ls L) else some []
def aDraw2 (P : Program) (call : Call1) (n : Nat) (ops A : Array Oper) (ls ms : List Nat) (i j : Nat) (t : T Value) (h : AH) : Option (List (T Value × AH)) :=
 if planOk n A ls ms && pairOk ops ls i j then fLv P call n A ls ms (aFork P call n ops ls i t) (ops.size + 1) 0 [] t h else none
def pairOf (ls : List Nat) : List Nat → Option (Nat × Nat)
 | [] => none
 | i :: r => (match r.find? fun j => Nat.beq (ls.getD j 0) (ls.getD i 0) with
  | some j => some (i, j)
  | none => pairOf ls r)
def aDrawP (P : Program) (call : Call1) (n : Nat) (ops : Array Oper) (t : T Value) (h : AH) : Option (List (T Value × AH)) :=
 match pairOf (levL ops) ((List.range ops.size).filter (isE ops)) with
 | none => none
 | some (i, j) => aDraw2 P call n ops (withEdge ops i j) (levL (withEdge ops i j)) (maskL (withEdge ops i j)) i j t h
def aDraw (P : Program) (call : Call1) (n : Nat) (ops : Array Oper) (t : T Value) (h : AH) : Option (List (T Value × AH)) :=
 if planOk n ops (levL ops) (maskL ops) then aLv P call n ops (levL ops) (maskL ops) (ops.size + 1) 0 [] t h else aDrawP P call n ops t h
structure Core (w0 : World) (P : Program) (n : Nat) (ops : Array Oper) (φ0 : Phi) (h0 : AH) (tb : T Value) (d0 : List Deferred) (done : Nat → Prop) (sn : List Nat) (t1 : T Value) (h1 : AH) (φ : Phi) (b : Nat → Nat)
  (lst : Nat → Prop) (a : Act) (w : World) : Prop where
 ld : ∀ i, i < ops.size → lst i → done i
 ed : ∀ i, i < ops.size → isE ops i = true → done i → lst i
 r : R w0 φ h1 w
 nx : Nx φ0 φ h0 h1
 size : a.tmps.size = n
 fw : ∀ s u j, a.tmps[s]? = some u → lst j → dstAt ops j = some s → VR φ (vt t1 s) u
 fb : ∀ s u, a.tmps[s]? = some u → (∀ j, lst j → dstAt ops j ≠ some s) → VR φ (vt tb s) u
 df : a.defers = d0
 tt : ∀ s, (∀ j, dstAt ops j = some s → ¬ done j) → vt t1 s = vt tb s
 nn : ∀ (i : Nat) (o : Oper), ops[i]? = some o → isE ops i = false → done i → ¬ lst i → ∃ q hh,
  (∀ s, s ∈ slots o.op → (∀ j, j ∈ edgesOf o → dstAt ops j = some s → vt q s = vt t1 s) ∧ ((∀ j, j ∈ edgesOf o → dstAt ops j ≠ some s) → vt q s = vt tb s)) ∧
  (∀ s, gslot ops o = some s → vt q s = vt t1 s) ∧ NFact P n ops o q hh t1 h1 (b i / 2) ∧ (opK o.op = 3 → aWant n q ops o = true → φ (b i / 2) = none ∧ b i % 2 = 0)
 bb : ∀ i j, i < ops.size → j < ops.size → isE ops i = false → isE ops j = false → done i → done j → i ≠ j → b i ≠ b j
 bl : ∀ i, i < ops.size → isE ops i = false → done i → (h0.next ≤ b i / 2 ∧ b i / 2 < h1.next ∧ b i % 2 = 0) ∨ b i = 2 * i + 1
 sn : ∀ (i : Nat) (o : Oper), ops[i]? = some o → opK o.op = 2 → done i → ¬ lst i → i ∈ sn
theorem R.ghosts (r : R w0 φ h w) (hle : h.next ≤ h'.next) (ht : T.Ok (h'.next)) (hg : ∀ b, b < h.next → h'.m.get b = h.m.get b) : R w0 φ h' w := by
 have e : ∀ {b i}, φ b = some i → h'.m.get b = h.m.get b := fun hb => hg _ (r.lt _ _ hb).2
 exact ⟨fun b i o hi ho => r.dom b i o hi (by rw [← e hi]; exact ho), fun b i o hi ho => r.low b i o hi (by rw [← e hi]; exact ho),
  fun b b' i i' o o' hi hi' ho ho' => r.inj b b' i i' o o' hi hi' (by rw [← e hi]; exact ho) (by rw [← e hi']; exact ho'), fun b i hi => ⟨(r.lt b i hi).1, Nat.lt_of_lt_of_le (r.lt b i hi).2 hle⟩, ht, r.below⟩
theorem mem_lvN {i L : Nat} : i ∈ lvN ops ls L ↔ i < ops.size ∧ isE ops i = false ∧ ls.getD i 0 = L := by
 unfold lvN
 rw [List.mem_filter, List.mem_range]
 simp
theorem lvN_pw (L : Nat) : (lvN ops ls L).Pairwise (· < ·) := by
 unfold lvN
 exact List.Pairwise.filter _ List.pairwise_lt_range
theorem isE_of {i : Nat} {o : Oper} (ho : ops[i]? = some o) : isE ops i = (opK o.op == 0) := by unfold isE; rw [ho]
theorem enter_ok (sp : PlanSpec n ops ls ms) (hn : T.Ok (n)) {d0 : List Deferred} {L : Nat} {seen : List Nat} {b : Nat → Nat} {lst : Nat → Prop} {a : Act}
   (c : Core w0 P n ops φ0 h0 tb d0 (fun i => ls.getD i 0 < L) seen t h φ b lst a w) (hs : aNs P n ops (lvN ops ls L) t h = some (t1, h1)) (hr : recheck P n ops (seen ++ lvN ops ls L) t1 h1 = true) :
   ∃ b', Core w0 P n ops φ0 h0 tb d0 (fun i => ls.getD i 0 < L ∨ (isE ops i = false ∧ ls.getD i 0 = L)) (seen ++ lvN ops ls L) t1 h1 φ b' lst a w ∧
     ∀ (i : Nat) (o : Oper), ops[i]? = some o → opK o.op = 2 → (ls.getD i 0 < L ∨ (isE ops i = false ∧ ls.getD i 0 = L)) → ¬ lst i → aWant n t1 ops o = true → ∃ v, aVal P n t1 h1 o.op = some v ∧ ∀ d, o.dst = some d → vt t1 d = v := by
 obtain ⟨⟨a1, a2, a3⟩, a4, bn, a5, a6⟩ := aNs_spec sp hn _ (lvN_pw L) hs c.r.nx
 have keep : ∀ s j, dstAt ops j = some s → ls.getD j 0 ≠ L → vt t1 s = vt t s := fun s j hd hl => a4 s (fun i hi hdi => by
   have := (sp.dst j s hd).2 i hdi
   subst this
   exact hl (mem_lvN.1 hi).2.2)
 have none_t1 : ∀ s, (∀ j, dstAt ops j = some s → ¬ (ls.getD j 0 < L ∨ (isE ops j = false ∧ ls.getD j 0 = L))) → vt t1 s = vt tb s := fun s hs => by
   rw [a4 s (fun i hi hdi => hs i hdi (.inr (mem_lvN.1 hi).2)), c.tt s (fun j hd hl => hs j hd (.inl hl))]
 have gst : ∀ {i : Nat} {o : Oper} {s : Nat}, ops[i]? = some o → gslot ops o = some s → ∃ g, g ∈ edgesOf o ∧ dstAt ops g = some s := by
   intro i o s ho hg
   unfold gslot at hg
   cases hq : o.guard with
   | none => rw [hq] at hg; cases hg
   | some p =>
     obtain ⟨g, q⟩ := p
     rw [hq] at hg
     exact ⟨g, sp.guard i o g q ho hq, hg⟩
 -- an edge's writer has been taken before
 have edge_lt : ∀ {i : Nat} {o : Oper} {j : Nat}, ops[i]? = some o → j ∈ edgesOf o → j < i ∧ (ls.getD j 0 < ls.getD i 0 ∨ (isE ops j = false ∧ ls.getD j 0 ≤ ls.getD i 0)) := by
   intro i o j ho hj
   obtain ⟨e1, e2⟩ := sp.edge i o j ho hj
   refine ⟨e1, ?_⟩
   unfold step1 at e2
   cases hE : isE ops j with
   | true => rw [hE] at e2; simp only [if_true] at e2; left; omega
   | false => rw [hE] at e2; right; exact ⟨rfl, by simpa using e2⟩
 have fact : ∀ (i : Nat) (o : Oper), ops[i]? = some o → isE ops i = false → (ls.getD i 0 < L ∨ (isE ops i = false ∧ ls.getD i 0 = L)) → ¬ lst i → ∃ q hh,
     (∀ s, s ∈ slots o.op → (∀ j, j ∈ edgesOf o → dstAt ops j = some s → vt q s = vt t1 s) ∧ ((∀ j, j ∈ edgesOf o → dstAt ops j ≠ some s) → vt q s = vt tb s)) ∧
     (∀ s, gslot ops o = some s → vt q s = vt t1 s) ∧ NFact P n ops o q hh t1 h1 ((if ls.getD i 0 = L then bn i else b i) / 2) ∧ (opK o.op = 3 → aWant n q ops o = true → φ ((if ls.getD i 0 = L then bn i else b i) / 2) = none ∧ (if ls.getD i 0 = L then bn i else b i) % 2 = 0) := by
   intro i o ho hE hd hl
   have hdi := dstAt_eq ho
   by_cases hL : ls.getD i 0 = L
   · have hi : i ∈ lvN ops ls L := mem_lvN.2 ⟨(Array.getElem?_eq_some_iff.1 ho).1, hE, hL⟩
     obtain ⟨c1, o', q, hh, c2, c3, c4, c5, c6⟩ := a5 i hi
     rw [ho] at c2; cases c2
     rw [if_pos hL]
     have edgew : ∀ s j, j ∈ edgesOf o → dstAt ops j = some s → vt q s = vt t1 s := by
       intro s j hj hds
       obtain ⟨e1, e2⟩ := edge_lt ho hj
       by_cases hjr : j ∈ lvN ops ls L
       · exact c4 s j hjr e1 hds
       · have hne : ls.getD j 0 ≠ L := fun e => by
           rcases e2 with e2 | e2
           · omega
           · exact hjr (mem_lvN.2 ⟨dstAt_lt hds, e2.1, e⟩)
         rw [keep s j hds hne]
         exact c3 s (fun j2 hj2 _ hd2 => by
           have := (sp.dst j s hds).2 j2 hd2
           subst this; exact hjr hj2)
     refine ⟨q, hh, fun s hs => ⟨fun j hj hds => edgew s j hj hds, fun hno => ?_⟩, fun s hg => ?_, c5, fun hk3 hw => ?_⟩
     · have hw : ∀ j, dstAt ops j = some s → i < j ∧ ls.getD i 0 ≤ ls.getD j 0 := by
         intro j hds
         rcases sp.slot i o s j ho hs hds with h5 | h5
         · exact (hno j h5 hds).elim
         · have hjo : ops[j]? = some (ops[j]'(dstAt_lt hds)) := Array.getElem?_eq_getElem (dstAt_lt hds)
           unfold edgeTo at h5
           rw [hjo] at h5
           have hji : i ∈ edgesOf (ops[j]'(dstAt_lt hds)) := by simpa using h5.1
           have := edge_lt hjo hji
           exact ⟨this.1, by rcases this.2 with h6 | h6 <;> omega⟩
       rw [c3 s (fun j _ hlt hds => by have := hw j hds; omega)]
       exact c.tt s (fun j hds hlt => by have := hw j hds; omega)
     · obtain ⟨g, hg1, hg2⟩ := gst ho hg
       exact edgew s g hg1 hg2
     · refine ⟨?_, c6 hk3 hw⟩
       cases hφ : φ (bn i / 2) with
       | none => rfl
       | some im =>
         have := (c.r.lt _ _ hφ).2
         have h6 := c6 hk3 hw
         rcases c1 with c1 | c1 <;> omega
   · have hlt : ls.getD i 0 < L := by rcases hd with hd | hd; exact hd; exact (hL hd.2).elim
     obtain ⟨q, hh, q1, q2, q3, q4⟩ := c.nn i o ho hE hlt hl
     rw [if_neg hL]
     have edgew : ∀ s j, j ∈ edgesOf o → dstAt ops j = some s → vt t1 s = vt t s := by
       intro s j hj hds
       have := edge_lt ho hj
       exact keep s j hds (by rcases this.2 with h6 | h6 <;> omega)
     refine ⟨q, hh, fun s hs => ⟨fun j hj hds => ?_, fun hno => (q1 s hs).2 hno⟩, fun s hg => ?_, ?_, q4⟩
     · rw [(q1 s hs).1 j hj hds, edgew s j hj hds]
     · obtain ⟨g, hg1, hg2⟩ := gst ho hg
       rw [q2 s hg, edgew s g hg1 hg2]
     · have hdst : ∀ d, o.dst = some d → vt t1 d = vt t d := fun d hd => keep d i (by rw [hdi]; exact hd) hL
       rcases q3 with ⟨hw, ⟨hk, v, hv, hd⟩ | ⟨hk, al, mk, hal, hb1, hb2, hd⟩⟩ | ⟨hw, hd⟩
       · exact .inl ⟨hw, .inl ⟨hk, v, hv, fun d hd' => by rw [hdst d hd', hd d hd']⟩⟩
       · exact .inl ⟨hw, .inr ⟨hk, al, mk, hal, by omega, by rw [a3 _ hb1]; exact hb2, fun d hd' => by rw [hdst d hd', hd d hd']⟩⟩
       · exact .inr ⟨hw, fun d hd' => by rw [hdst d hd', hd d hd']⟩
 refine ⟨fun i => if ls.getD i 0 = L then bn i else b i, ⟨fun i hi hl => .inl (c.ld i hi hl), fun i hi hE hd => ?_, c.r.ghosts a1 a2 a3, ?_, c.size, fun s u j hu hl hds => ?_, c.fb, c.df, none_t1, fact, fun i j hi hj hEi hEj hdi hdj hij => ?_, fun i hi hE hd => ?_, fun i o ho hk hd hl => ?_⟩, ?_⟩
 · rcases hd with hd | hd
   · exact c.ed i hi hE hd
   · rw [hE] at hd; cases hd.1
 · exact ⟨c.nx.le, Nat.le_trans c.nx.next a1, fun k hk hlt => ⟨(c.nx.ghost k hk hlt).1, (a3 k (Nat.lt_of_lt_of_le hlt c.nx.next)).trans (c.nx.ghost k hk hlt).2⟩⟩
 · have := c.ld j (dstAt_lt hds) hl
   rw [keep s j hds (by omega)]
   exact c.fw s u j hu hl hds
 · by_cases e1 : ls.getD i 0 = L
   · have hi' : i ∈ lvN ops ls L := mem_lvN.2 ⟨hi, hEi, e1⟩
     rw [if_pos e1]
     by_cases e2 : ls.getD j 0 = L
     · rw [if_pos e2]
       exact a6 i j hi' (mem_lvN.2 ⟨hj, hEj, e2⟩) hij
     · rw [if_neg e2]
       have c1 := (a5 i hi').1
       have c2 := c.bl j hj hEj (by rcases hdj with h5 | h5; exact h5; exact (e2 h5.2).elim)
       rcases c1 with c1 | c1 <;> rcases c2 with c2 | c2 <;> omega
   · rw [if_neg e1]
     have hi2 : ls.getD i 0 < L := by rcases hdi with h5 | h5; exact h5; exact (e1 h5.2).elim
     by_cases e2 : ls.getD j 0 = L
     · have hj' : j ∈ lvN ops ls L := mem_lvN.2 ⟨hj, hEj, e2⟩
       rw [if_pos e2]
       have c1 := (a5 j hj').1
       have c2 := c.bl i hi hEi hi2
       rcases c1 with c1 | c1 <;> rcases c2 with c2 | c2 <;> omega
     · rw [if_neg e2]
       exact c.bb i j hi hj hEi hEj hi2 (by rcases hdj with h5 | h5; exact h5; exact (e2 h5.2).elim) hij
 · by_cases e1 : ls.getD i 0 = L
   · rw [if_pos e1]
     have c1 := (a5 i (mem_lvN.2 ⟨hi, hE, e1⟩)).1
     rcases c1 with c1 | c1
     · exact .inl ⟨Nat.le_trans c.nx.next c1.1, c1.2⟩
     · exact .inr c1
   · rw [if_neg e1]
     rcases c.bl i hi hE (by rcases hd with h5 | h5; exact h5; exact (e1 h5.2).elim) with c2 | c2
     · exact .inl ⟨c2.1, Nat.lt_of_lt_of_le c2.2.1 a1, c2.2.2⟩
     · exact .inr c2
 · rcases hd with hd | hd
   · exact List.mem_append_left _ (c.sn i o ho hk hd hl)
   · exact List.mem_append_right _ (mem_lvN.2 ⟨(Array.getElem?_eq_some_iff.1 ho).1, hd⟩)
 · intro i o ho hk hd hl hw
   have hin : i ∈ seen ++ lvN ops ls L := by
     rcases hd with hd | hd
     · exact List.mem_append_left _ (c.sn i o ho hk hd hl)
     · exact List.mem_append_right _ (mem_lvN.2 ⟨(Array.getElem?_eq_some_iff.1 ho).1, hd⟩)
   have := List.all_eq_true.1 hr i hin
   rw [ho] at this
   dsimp only at this
   rw [if_pos hk, if_pos hw] at this
   cases hv : aVal P n t1 h1 o.op with
   | none => rw [hv] at this; simp at this
   | some v =>
     refine ⟨v, rfl, fun d hd => ?_⟩
     rw [hv, hd] at this
     dsimp only at this
     rw [Bool.or_eq_true] at this
     rcases this with this | this
     · exact (veq_eq 9 _ _ this).symm
     · exact (propB_of this).symm
end
end Go.X
