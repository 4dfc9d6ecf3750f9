/- Parts of the closed evaluator. -/
import Derived.Test.YtlgakeilplnfmaaGreatDoorZa
namespace Go.X
noncomputable section
open Go Go.RowKit
variable {w0 w w' : World} {φ φ' : Phi} {h h' : AH} {P : Program}
theorem LR.mem_one {l l' : List Value} (hl : LR φ l l') (h1 : l.all (·.oneCell') = true) : ∀ v, v ∈ l' → v.oneCell' = true := by
 induction hl with
 | nil => intro v hv; simp at hv
 | cons h _ ih =>
  simp only [List.all_cons, Bool.and_eq_true] at h1
  intro v hv
  rcases List.mem_cons.1 hv with e | e
  · rw [e, h.one]; exact h1.1
  · exact ih h1.2 v e
theorem run_storeCells_add {b o k : Nat} : ∀ (vs : List Value) (q : Nat) (w : World), (storeCells ((⟨b, o, none⟩ : Addr).add k) vs q).run P w = (storeCells ⟨b, o, none⟩ vs (k + q)).run P w := by
 intro vs
 induction vs with
 | nil => intro q w; simp [storeCells]
 | cons x vs ih =>
  intro q w
  simp only [storeCells, Sem.run_bind]
  have e : ((⟨b, o, none⟩ : Addr).add k).add q = (⟨b, o, none⟩ : Addr).add (k + q) := by rw [addEq, addEq, addEq, Nat.add_assoc]
  rw [e]
  congr 1
  funext u w3
  rw [ih (q + 1) w3, Nat.add_assoc]
theorem run_storeCells_row {g o t : Nat} {vs : List Value} {cur : Array Value} {w : World} (hg : w.heap[g]? = some (.cells cur t (0, 0))) (hl : o + vs.length ≤ cur.size) (h1 : ∀ v, v ∈ vs → v.oneCell' = true) :
  (storeCells ⟨g, o, none⟩ vs).run P w = .ok () (w.setRow g (cur.toList.take o ++ vs ++ cur.toList.drop (o + vs.length)).toArray) := by
 have := run_storeCells_at (P := P) g o t vs 0 cur w hg (by simpa using hl) h1
 simpa using this
theorem sim_inplace (r : R w0 φ h w) {a a' : Addr} {i : Im} {k l n c' b : Nat} {el : TypeId} {by_ : Nat} {zero : Array Value} {old new new' : List Value} {tag : Option TypeId} (htag : ∀ ty, tag = some ty → tyAt h a.block = some ty ∧ a.off = 0) (h1 : new.all (·.oneCell') = true) {nn : Nat}
   (hi : φ a.block = some i) (hop : opOf h a.block = some (nn, k)) (hold : h.cells a 0 (l * k) = some old) (hs : ({ h with m := h.m.set a.block none } : AH).newo (old ++ new) k tag = some (b, h'))
   (hn : LR φ new new') (hlen : new.length = n * k) (he : i.e = k) (hz : a.off + i.d + c' * i.e ≤ i.sz) (ha : 0 < c' → a' = ⟨i.c, a.off + i.d, none⟩) (hroom : l + n ≤ c') :
   SimV w0 P φ h w (appTo k el by_ zero (some a') l c' n new') (.slice (some ⟨b, 0, none⟩) (l + n) open_) h' := by
 have hpos := newo_pos hs
 obtain ⟨old', ho1, ho2, ho3⟩ := r.cells hi _ _ hold
 obtain ⟨arr, el', ob, hg, hro, hw, hsz, hty⟩ := r.row hi hop
 have hb : T.Ok (a.block) := trivial
 have rd := r.drop a.block hb
 have free : ∀ b j o', φ b = some j → (h.m.set a.block none).get b = some o' → j.c ≠ i.c := by
   intro b j o' hj hgo hc
   rw [T.get_set] at hgo
   by_cases e : b = a.block
   · rw [if_pos e] at hgo; cases hgo
   · rw [if_neg e] at hgo; exact e (r.inj _ _ _ _ _ _ hi hj hg hgo hro hc.symm).symm
 have hlow : w0.heap.size ≤ i.c := r.low _ _ _ hi hg hro
 have hll : (old' ++ new').length = (l + n) * k := by rw [List.length_append, ho1, ← hn.length, hlen, Nat.add_mul]
 have hkk : (l + n) * k ≤ c' * k := Nat.mul_le_mul_right k hroom
 rw [he] at hz
 have hold' : ∀ j v, old'[j]? = some v → arr[a.off + i.d + j]? = some v := by
   intro j v hj
   have := ho2 j v hj
   rw [Nat.zero_add] at this
   simpa [World.cell?, hw] using this
 have hnl : new'.length = n * k := by rw [← hn.length, hlen]
 have hm := Nat.add_mul l n k
 let o := a.off + i.d + l * k
 let arr' : Array Value := (arr.toList.take o ++ new' ++ arr.toList.drop (o + new'.length)).toArray
 have hosz : o + new'.length ≤ arr.size := by rw [hsz, hnl]; show a.off + i.d + l * k + n * k ≤ i.sz; omega
 have hw2 : (w.setRow i.c arr').heap[i.c]? = some (.cells arr' el' (0, 0)) := setRow_heap w i.c arr arr' el' (0, 0) hw
 have hsz2 : arr'.size = i.sz := by
   show (arr.toList.take o ++ new' ++ arr.toList.drop (o + new'.length)).toArray.size = i.sz
   rw [List.size_toArray, List.length_append, List.length_append, List.length_take, List.length_drop, Array.length_toList]
   omega
 have rf : R w0 φ { h with m := h.m.set a.block none } (w.setRow i.c arr') := rd.setFree free hlow
 obtain ⟨φ', nx, hb', r'⟩ := rf.newo (sz := i.sz) (d := a.off + i.d) hs (ho3.append hn) hw2 hsz2 (by rw [(ho3.append hn).length, hll]; omega) (fun j v hj => by
     show (arr.toList.take o ++ new' ++ arr.toList.drop (o + new'.length)).toArray[j + (a.off + i.d)]? = some v
     rw [List.getElem?_toArray]
     have hjl := (List.getElem?_eq_some_iff.1 hj).1
     rw [hll] at hjl
     have htl : (arr.toList.take o).length = o := by rw [List.length_take, Array.length_toList]; omega
     by_cases hjo : j < l * k
     · rw [List.getElem?_append_left (by omega)] at hj
       rw [List.append_assoc, List.getElem?_append_left (by rw [htl]; show j + (a.off + i.d) < a.off + i.d + l * k; omega), List.getElem?_take, if_pos (by show j + (a.off + i.d) < a.off + i.d + l * k; omega)]
       have := hold' j v hj
       rw [Nat.add_comm j]
       simpa using this
     · rw [List.getElem?_append_right (by omega), ho1] at hj
       rw [List.append_assoc, List.getElem?_append_right (by rw [htl]; show a.off + i.d + l * k ≤ j + (a.off + i.d); omega), htl, List.getElem?_append_left (by rw [hnl]; show j + (a.off + i.d) - (a.off + i.d + l * k) < n * k; omega)]
       rw [show j + (a.off + i.d) - o = j - l * k by show j + (a.off + i.d) - (a.off + i.d + l * k) = j - l * k; omega]
       exact hj) free hlow (fun ty ht => by
     obtain ⟨h5, h6⟩ := htag ty ht
     obtain ⟨h7, h8⟩ := hty ty h5
     exact ⟨h7, by rw [h6, h8]⟩)
 have nx' : Nx φ φ' h h' := (Nx.drop hi hb).trans nx
 refine ⟨.slice (some a') (l + n) c', w.setRow i.c arr', φ', ?_, nx', r', ?_⟩
 · unfold appTo
   rw [if_pos hroom]
   have hst : (storeCells (a'.add (l * k)) new').run P w = .ok () (w.setRow i.c arr') := by
     by_cases hc0 : c' = 0
     · have e2 : n = 0 := by omega
       subst e2
       have hnil : new' = [] := List.eq_nil_of_length_eq_zero (by simpa using hnl)
       have earr : arr' = arr := by
        show (arr.toList.take o ++ new' ++ arr.toList.drop (o + new'.length)).toArray = arr
        rw [hnil]; simp
       rw [earr, setRow_self w i.c arr el' (0, 0) hw, hnil]
       simp [storeCells]
     · rw [ha (by omega), run_storeCells_add]
       have := run_storeCells_row (P := P) (o := o) hw hosz (hn.mem_one h1)
       rw [Nat.add_zero]
       have e : (storeCells ⟨i.c, a.off + i.d, none⟩ new' (l * k)).run P w = (storeCells ⟨i.c, o, none⟩ new').run P w := by
        have := run_storeCells_add (P := P) (b := i.c) (o := a.off + i.d) (k := l * k) new' 0 w
        rw [Nat.add_zero] at this
        rw [← this, addEq]
       rw [e]; exact this
   simp [hst]
 · refine .opens (a := ⟨b, 0, none⟩) ⟨i.c, a.off + i.d, (old ++ new).length, i.sz, k⟩ hb' rfl hpos hroom ?_ ?_ (fun hp => by rw [ha hp]; simp)
   · show (old ++ new).length ≤ 0 + c' * k
     rw [(ho3.append hn).length, hll]; omega
   · show 0 + (a.off + i.d) + c' * k ≤ i.sz
     omega
theorem tagOf_spec {tg : Option TypeId} {a : Addr} {ty : TypeId} (ht : tagOf tg h a = some ty) : tg = some ty ∧ tyAt h a.block = some ty ∧ a.off = 0 := by
 unfold tagOf at ht
 split at ht
 · cases ht
 · split at ht
   · rename_i t2 h2
     split at ht
     · rename_i hb
       cases ht
       rw [Bool.and_eq_true] at hb
       exact ⟨rfl, by rw [h2, Nat.eq_of_beq_eq_true hb.1], Nat.eq_of_beq_eq_true hb.2⟩
     · cases ht
   · cases ht
theorem sim_appTo (r : R w0 φ h w) {k n : Nat} {el : TypeId} {by_ : Nat} {zero : Value} {s s' v : Value} {new new' : List Value} {tg : Option TypeId} (htg : ∀ ty, tg = some ty → el = ty) (hz : (cellsL zero).length = k) (h1 : new.all (·.oneCell') = true)
   (hs : aAppendTo k s n new h tg = some (v, h')) (hv : VR φ s s') (hn : LR φ new new') (hlen : new.length = n * k) :
   ∃ base l c, s' = .slice base l c ∧ (∃ b0 c0, s = .slice b0 l c0) ∧ SimV w0 P φ h w (appTo k el by_ zero.cells base l c n new') v h' := by
 unfold aAppendTo at hs
 split at hs
 · rename_i l c
   cases hv
   split at hs
   · rename_i hc
     obtain ⟨rfl, rfl⟩ := hc
     refine ⟨none, 0, 0, rfl, ⟨none, 0, rfl⟩, ?_⟩
     split at hs
     · rename_i h0
       cases hs
       subst h0
       refine .here r (v' := .slice none 0 0) ?_ (.nils 0 0)
       simp [appTo]
     · rename_i h0
       split at hs
       · rename_i b h2 hnew
         cases hs
         have := sim_grow (P := P) (el := el) (by_ := by_) (zero := zero) (base := none) (l := 0) (c := 0) (n := n) (k := k) (old := []) (old' := []) r htg hz (by omega) hnew (fun w1 _ => by simp [Builtin.firstCells]) .nil hn (by simpa using hlen)
         simpa using this
       · cases hs
   · cases hs
 · rename_i a l c
   have fits : ∀ {i : Im} {c' : Nat} {h' : AH}, φ a.block = some i → h.setcs a (l * k) new = some h' → l + n ≤ c' → ∃ w2, (appTo k el by_ zero.cells (some ⟨i.c, a.off + i.d, none⟩) l c' n new').run P w = .ok (.slice (some ⟨i.c, a.off + i.d, none⟩) (l + n) c') w2 ∧ Nx φ φ h h' ∧ R w0 φ h' w2 := by
     intro i c' h' hi hset hroom
     obtain ⟨w2, hw2, r2⟩ := R.setcs (P := P) hi _ _ r hset hn
     have hnx := Nx.setcs hi trivial _ _ hset
     refine ⟨w2, ?_, hnx, r2⟩
     have e0 := run_storeCells_add (P := P) (b := i.c) (o := a.off + i.d) (k := l * k) new' 0 w
     rw [Nat.add_zero, hw2] at e0
     simp [appTo, hroom, e0]
   split at hs
   · rename_i hc
     subst hc
     obtain ⟨a', c', i, rfl, hi, hsp, he, hlc, hnn, hzz, ha⟩ := hv.sl_invO
     refine ⟨some a', l, c', rfl, ⟨some a, _, rfl⟩, ?_⟩
     split at hs
     · rename_i nn op hop
       obtain ⟨hin, hie⟩ := r.opOf hi hop
       split at hs
       · rename_i hk
         subst hk
         split at hs
         · rename_i hfit
           split at hs
           · rename_i h2 hset
             cases hs
             have hroom : l + n ≤ c' := by
               rw [hie] at hnn
               have h3 : (l + n) * op ≤ c' * op := by omega
               exact Nat.le_of_mul_le_mul_right h3 (by rw [← hie]; exact he)
             by_cases hl0 : l + n = 0
             · have hn0 : n = 0 := by omega
               subst hn0
               have hnil : new = [] := List.eq_nil_of_length_eq_zero (by simpa using hlen)
               subst hnil
               cases hn
               simp only [AH.setcs] at hset
               cases hset
               refine .here r (v' := .slice (some a') (l + 0) c') ?_ (.opens i hi hsp he (by omega) hnn hzz ha)
               unfold appTo
               rw [if_pos hroom]
               simp [storeCells]
             · obtain rfl := ha (by omega)
               obtain ⟨w2, h3, h4, h5⟩ := fits hi hset hroom
               exact ⟨_, w2, φ, h3, h4, h5, .opens i hi hsp he hroom hnn hzz ha⟩
           · cases hs
         · rename_i hfit
           split at hs
           · rename_i old hold
             split at hs
             · rename_i b h2 hnew
               cases hs
               by_cases hroom : l + n ≤ c'
               · exact sim_inplace r (fun ty ht => (tagOf_spec ht).2) h1 hi hop hold hnew hn hlen hie hzz ha hroom
               · have hb : T.Ok (a.block) := trivial
                 obtain ⟨old', ho1, ho2, ho3⟩ := r.cells hi _ _ hold
                 have hf : ∀ w1 : World, w1.heap = w.heap → (Builtin.firstCells op l (.slice (some a') l c')).run P w1 = .ok ⟨old'⟩ w1 := by
                   intro w1 hw1
                   unfold Builtin.firstCells
                   by_cases hl0 : l = 0
                   · subst hl0
                     have : old' = [] := List.eq_nil_of_length_eq_zero (by simpa using ho1)
                     subst this
                     simp [loadCells, loadCellsFrom]
                   · rw [ha (by omega)]
                     exact run_loadCells_at ho1 (fun j v hj => by
                      have := ho2 j v hj
                      rw [Nat.zero_add] at this
                      simp only [World.cell?] at this ⊢
                      rw [hw1]; exact this)
                 have := sim_grow (P := P) (el := el) (by_ := by_) (zero := zero) (base := some a') (l := l) (c := c') (n := n) (k := op) (r.drop a.block hb) (fun ty ht => htg ty (tagOf_spec ht).1) hz (by omega) hnew hf ho3 hn (by rw [List.length_append, hlen, ho3.length, ho1, Nat.add_mul])
                 obtain ⟨v', w', φ', h3, h4, h5, h6⟩ := this
                 exact ⟨v', w', φ', h3, (Nx.drop hi hb).trans h4, h5, h6⟩
             · cases hs
           · cases hs
       · cases hs
     · cases hs
   · rename_i hc
     split at hs
     · rename_i hroom
       split at hs
       · rename_i h0
         cases hs
         subst h0
         have hnil : new = [] := List.eq_nil_of_length_eq_zero (by simpa using hlen)
         subst hnil
         cases hn
         have : ∃ a', s' = .slice (some a') l c := by
           by_cases h00 : c = 0
           · subst h00; obtain ⟨a', rfl⟩ := hv.sl_inv0; exact ⟨a', rfl⟩
           · obtain ⟨i, _, _, rfl⟩ := hv.sl_inv h00 hc; exact ⟨_, rfl⟩
         obtain ⟨a', rfl⟩ := this
         refine ⟨some a', l, c, rfl, ⟨some a, c, rfl⟩, .here r (v' := .slice (some a') l c) ?_ hv⟩
         unfold appTo
         rw [if_pos hroom]
         simp [storeCells]
       · rename_i h0
         split at hs
         · rename_i h2 hset
           cases hs
           obtain ⟨i, hi, hsp, rfl⟩ := hv.sl_inv (by omega) hc
           refine ⟨_, l, c, rfl, ⟨some a, c, rfl⟩, ?_⟩
           obtain ⟨w2, h3, h4, h5⟩ := fits hi hset hroom
           exact ⟨_, w2, φ, h3, h4, h5, .slice i hi hsp hc⟩
         · cases hs
     · rename_i hroom
       split at hs
       · rename_i old hold
         split at hs
         · rename_i b h2 hnew
           cases hs
           have : ∃ a', s' = .slice (some a') l c ∧ ∃ old', old'.length = l * k ∧ (∀ w1 : World, w1.heap = w.heap → (Builtin.firstCells k l (.slice (some a') l c)).run P w1 = .ok ⟨old'⟩ w1) ∧ LR φ old old' := by
             by_cases hl0 : l = 0
             · subst hl0
               rw [if_pos rfl] at hold
               cases hold
               have : ∃ a', s' = .slice (some a') 0 c := by
                 by_cases h00 : c = 0
                 · subst h00; obtain ⟨a', rfl⟩ := hv.sl_inv0; exact ⟨a', rfl⟩
                 · obtain ⟨i, _, _, rfl⟩ := hv.sl_inv h00 hc; exact ⟨_, rfl⟩
               obtain ⟨a', rfl⟩ := this
               exact ⟨a', rfl, [], by simp, fun w1 _ => by simp [Builtin.firstCells, loadCells, loadCellsFrom], .nil⟩
             · rw [if_neg hl0] at hold
               split at hold
               · cases hold
               · rename_i h00
                 obtain ⟨i, hi, hsp, rfl⟩ := hv.sl_inv h00 hc
                 obtain ⟨old', ho1, ho2, ho3⟩ := r.cells hi _ _ hold
                 refine ⟨_, rfl, old', ho1, fun w1 hw1 => ?_, ho3⟩
                 unfold Builtin.firstCells
                 exact run_loadCells_at ho1 (fun j v hj => by
                   have := ho2 j v hj
                   rw [Nat.zero_add] at this
                   simp only [World.cell?] at this ⊢
                   rw [hw1]; exact this)
           obtain ⟨a', rfl, old', ho1, hf, ho3⟩ := this
           exact ⟨_, l, c, rfl, ⟨some a, c, rfl⟩, sim_grow r htg hz (by omega) hnew hf ho3 hn (by rw [List.length_append, hlen, ho3.length, ho1, Nat.add_mul])⟩
         · cases hs
       · cases hs
 · cases hs
end
end Go.X
namespace Go.X
noncomputable section
open Go Go.RowKit
variable {w0 w w' : World} {φ φ' : Phi} {h h' : AH} {P : Program}
def lenV : Value → Option Nat
 | .slice _ l _ => some l
 | .string s => some s.size
 | _ => none
theorem lenV_ok {x x' : Value} {n : Nat} (hs : lenV x = some n) (hx : VR φ x x') : (Builtin.lenOf x').run P w = .ok n w := by
 cases hx <;> simp [lenV] at hs <;> subst hs <;> simp [Builtin.lenOf]
def aFirst (k n : Nat) (x : Value) (h : AH) : Option (List Value) := match x with
 | .slice none _ _ => some []
 | .slice (some a) l c => if n = 0 then some [] else if c = 0 ∨ l = 0 then none else h.cells a 0 (n * k)
 | .string s => some ((s.data.toList.take n).map fun b => .int .u8 b.toNat)
 | _ => none
theorem first_ok (r : R w0 φ h w) {k n : Nat} {x x' : Value} {cs : List Value} (hs : aFirst k n x h = some cs) (hx : VR φ x x') :
   ∃ cs', (∀ w1 : World, w1.heap = w.heap → (Builtin.firstCells k n x').run P w1 = .ok ⟨cs'⟩ w1) ∧ LR φ cs cs' := by
 unfold aFirst at hs
 split at hs
 · cases hx
   cases hs
   exact ⟨[], fun w1 _ => by simp [Builtin.firstCells], .nil⟩
 · rename_i a l c
   split at hs
   · rename_i h0
     cases hs
     subst h0
     have : ∃ a' c', x' = .slice (some a') l c' := by cases hx <;> exact ⟨_, _, rfl⟩
     obtain ⟨a', c', rfl⟩ := this
     exact ⟨[], fun w1 _ => by simp [Builtin.firstCells, loadCells, loadCellsFrom], .nil⟩
   · split at hs
     · cases hs
     · rename_i hcl
       obtain ⟨i, c', hi, hsp, rfl⟩ := hx.sl_some (by omega) (by omega)
       obtain ⟨l', h1, h2, h3⟩ := r.cells hi _ _ hs
       refine ⟨l', fun w1 hw1 => ?_, h3⟩
       unfold Builtin.firstCells
       exact run_loadCells_at h1 (fun j v hj => by
        have := h2 j v hj
        rw [Nat.zero_add] at this
        simp only [World.cell?] at this ⊢
        rw [hw1]; exact this)
 · rename_i s
   cases hx
   cases hs
   refine ⟨_, fun w1 _ => ?_, LR.refl_bytes _⟩
   have e : (s.extract 0 n).data.toList = s.data.toList.take n := by
     rw [ByteArray.data_extract]
     simp
   show Sem.run P (Pure.pure (Array.map (fun b : UInt8 => Value.int IntKind.u8 b.toNat) (s.extract 0 n).data)) w1 = _
   simp only [Sem.run_pure]
   congr 1
   apply Array.ext'
   rw [Array.toList_map, e]
 · cases hs
inductive NewsK where
 | zeros | list | no
def newsK (P : Program) (T : TypeId) : NewsK := match P.underlying T with
 | some (.int _) => .zeros
 | some (.slice _) => .list
 | some .string => .list
 | _ => .no
def aNews (P : Program) (xT : TypeId) (k : Nat) (z x : Value) (h : AH) : Option (Nat × List Value) := match newsK P xT with
 | .zeros => (match x with
  | .int _ m => if 0 ≤ m ∧ m < 1099511627776 then some (m.toNat, zrep m.toNat (cellsL z)) else none
  | _ => none)
 | .list => (match lenV x with
  | some n => (match aFirst k n x h with | some l => some (n, l) | none => none)
  | none => none)
 | .no => none
def isU8 (P : Program) (el : TypeId) : Option TypeId := match P.underlying el with
 | some (.int .u8) => some el
 | _ => none
theorem isU8_eq {P : Program} {el : TypeId} : ∀ ty, isU8 P el = some ty → el = ty := by
 intro ty h
 unfold isU8 at h
 split at h
 · cases h; rfl
 · cases h
def aAppend (P : Program) (sT xT : TypeId) (s x : Value) (h : AH) : Option (Value × AH) := match P.underlying sT with
 | some (.slice el) => (match szOf P el, byOf P el, zeroOf P el with
  | some k, some by_, some z => (match aNews P xT k z x h, lenV s with
   | some (n, new), some l => if (cellsL z).length = k ∧ new.length = n * k ∧ new.all (·.oneCell') = true ∧ (l + n) * (by_ + 1) < 1099511627776 then aAppendTo k s n new h (isU8 P el) else none
   | _, _ => none)
  | _, _, _ => none)
 | _ => none
theorem run_append_zeros {sT xT ty el : TypeId} {i : TypeInfo} {zero : Value} {base : Option Addr} {l c n : Nat} {kk : IntKind} {m : Int} (hu : P.underlying sT = some (.slice el)) (hi : P.info? el = some i)
   (hz : i.zero = some zero) (hk : newsK P xT = .zeros) (hsm : (l + n) * (i.bytes + 1) < 1099511627776) (hm0 : 0 ≤ m) (hm1 : m < 1099511627776) (hn : n = m.toNat) (hzl : (cellsL zero).length = i.size) :
   (Builtin.append_ #[sT, xT] ty #[.slice base l c, .int kk m]).run P w = (appTo i.size el i.bytes zero.cells base l c n (zrep n (cellsL zero))).run P w := by
 have h40 : l + n < 1099511627776 := by
   have : (l + n) * 1 ≤ (l + n) * (i.bytes + 1) := Nat.mul_le_mul_left _ (by omega)
   omega
 have hfit : c < l + n → ¬ (281474976710656 < Builtin.nextslicecap (l + n) c * i.bytes) := by
   intro hc
   have h3 : (l + n) * i.bytes ≤ 140737488355328 := by
     have : (l + n) * (i.bytes + 1) = (l + n) * i.bytes + (l + n) := by rw [Nat.mul_add, Nat.mul_one]
     omega
   have := growslice_fits hc h3
   omega
 have hmax : (IntKind.i64.max : Int) = 9223372036854775807 := by decide
 have hbig : ¬ (9223372036854775807 < (l : Int) + max m 0) := by omega
 have hdx : ∃ k2, P.underlying xT = some (.int k2) := by
   unfold newsK at hk
   split at hk <;> first | exact ⟨_, ‹_›⟩ | cases hk
 obtain ⟨k2, hxu⟩ := hdx
 have hw := wrap64 hm0 hm1
 have hmb : ¬ (281474976710656 < m * (i.bytes : Int)) := by
   have h5 : n * (i.bytes + 1) ≤ (l + n) * (i.bytes + 1) := Nat.mul_le_mul_right _ (by omega)
   have h7 : n * (i.bytes + 1) = n * i.bytes + n := by rw [Nat.mul_add, Nat.mul_one]
   have h8 : ((n * i.bytes : Nat) : Int) = m * i.bytes := by rw [hn]; push_cast; rw [Int.toNat_of_nonneg hm0]
   omega
 have hmn : ¬ m < 0 := by omega
 subst hn
 unfold Builtin.append_ appTo
 by_cases hroom : l + m.toNat ≤ c
 · by_cases hz0 : m.toNat * i.size = 0
   · have he : zrep m.toNat (cellsL zero) = [] := List.eq_nil_of_length_eq_zero (by rw [zrep_len, hzl]; exact hz0)
     simp [run_underlying hu, run_underlying hxu, sizeOf, typeInfo, zeroValue, hi, hz, asInt, asIntOf, hw, hmn, hmb, hroom, hz0, he]
     cases base <;> rfl
   · simp [run_underlying hu, run_underlying hxu, sizeOf, typeInfo, zeroValue, hi, hz, asInt, asIntOf, hw, hmn, hmb, hroom, hz0, zcells]
     cases base <;> rfl
 · have hf := hfit (by omega)
   by_cases hz0 : m.toNat * i.size = 0
   · have he : zrep m.toNat (cellsL zero) = [] := List.eq_nil_of_length_eq_zero (by rw [zrep_len, hzl]; exact hz0)
     simp [run_underlying hu, run_underlying hxu, sizeOf, typeInfo, zeroValue, hi, hz, asInt, asIntOf, hw, hmn, hmb, hroom, hz0, he, hmax, hbig, hf, Question.forced]
   · simp [run_underlying hu, run_underlying hxu, sizeOf, typeInfo, zeroValue, hi, hz, asInt, asIntOf, hw, hmn, hmb, hroom, hz0, zcells, hmax, hbig, hf, Question.forced]
theorem load_world {a : Addr} {v : Value} {w1 : World} (hr : (load a).run P w = .ok v w1) : w1 = w := by
 rw [run_load] at hr
 split at hr
 · cases hr; rfl
 · split at hr
   · cases hr; rfl
   · cases hr
theorem loadCellsFrom_world {a : Addr} : ∀ (n i : Nat) (acc : Array Value) {l : Array Value} {w w1 : World}, (loadCellsFrom a i n acc).run P w = .ok l w1 → w1 = w
 | 0, i, acc, l, w, w1, hr => by simp [loadCellsFrom] at hr; exact hr.2.symm
 | n + 1, i, acc, l, w, w1, hr => by
  simp only [loadCellsFrom, Sem.run_bind] at hr
  cases hq : (load (a.add i)).run P w with
  | ok v w2 =>
   rw [hq] at hr
   have := load_world hq
   subst this
   exact loadCellsFrom_world n (i + 1) _ hr
  | halt x w2 => rw [hq] at hr; cases hr
theorem firstCells_world {k n : Nat} {x : Value} {l : Array Value} {w1 : World} (hr : (Builtin.firstCells k n x).run P w = .ok l w1) : w1 = w := by
 unfold Builtin.firstCells at hr
 split at hr
 · exact loadCellsFrom_world _ _ _ hr
 · simp at hr; exact hr.2.symm
 · simp at hr; exact hr.2.symm
 · simp at hr
theorem run_append_list {sT xT ty el : TypeId} {i : TypeInfo} {zero x' : Value} {base : Option Addr} {l c n : Nat} {new' : List Value} (hu : P.underlying sT = some (.slice el)) (hi : P.info? el = some i)
   (hz : i.zero = some zero) (hk : newsK P xT = .list) (hsm : (l + n) * (i.bytes + 1) < 1099511627776) (hlen : (Builtin.lenOf x').run P w = .ok n w)
   (hfirst : ∀ w1 : World, w1.heap = w.heap → (Builtin.firstCells i.size n x').run P w1 = .ok ⟨new'⟩ w1) :
   (Builtin.append_ #[sT, xT] ty #[.slice base l c, x']).run P w = (appTo i.size el i.bytes zero.cells base l c n new').run P w := by
 have h40 : l + n < 1099511627776 := by
   have : (l + n) * 1 ≤ (l + n) * (i.bytes + 1) := Nat.mul_le_mul_left _ (by omega)
   omega
 have hbig : ¬ (9223372036854775807 < (l : Int) + (n : Int)) := by omega
 have hfit : c < l + n → ¬ (281474976710656 < Builtin.nextslicecap (l + n) c * i.bytes) := by
   intro hc
   have h3 : (l + n) * i.bytes ≤ 140737488355328 := by
     have : (l + n) * (i.bytes + 1) = (l + n) * i.bytes + (l + n) := by rw [Nat.mul_add, Nat.mul_one]
     omega
   have := growslice_fits hc h3
   omega
 have hmax : (IntKind.i64.max : Int) = 9223372036854775807 := by decide
 have hdx : (∃ e, P.underlying xT = some (.slice e)) ∨ P.underlying xT = some .string := by
   unfold newsK at hk
   split at hk <;> first | exact .inl ⟨_, ‹_›⟩ | exact .inr ‹_› | cases hk
 have h1 := hfirst w rfl
 have h2 := hfirst w.drew rfl
 unfold Builtin.append_ appTo
 by_cases hroom : l + n ≤ c
 · rcases hdx with ⟨e, hxu⟩ | hxu
   · simp [run_underlying hu, run_underlying hxu, sizeOf, typeInfo, hi, hlen, hroom, h1]
     cases base <;> rfl
   · simp [run_underlying hu, run_underlying hxu, sizeOf, typeInfo, hi, hlen, hroom, h1]
     cases base <;> rfl
 · have hf := hfit (by omega)
   rcases hdx with ⟨e, hxu⟩ | hxu
   · simp [run_underlying hu, run_underlying hxu, sizeOf, typeInfo, zeroValue, hi, hz, hlen, hroom, hmax, hbig, hf, Question.forced]
     cases hq : (Builtin.firstCells i.size l (Value.slice base l c)).run P w.drew with
     | ok old w2 => rw [firstCells_world hq]; simp [h2]
     | halt x w2 => simp
   · simp [run_underlying hu, run_underlying hxu, sizeOf, typeInfo, zeroValue, hi, hz, hlen, hroom, hmax, hbig, hf, Question.forced]
     cases hq : (Builtin.firstCells i.size l (Value.slice base l c)).run P w.drew with
     | ok old w2 => rw [firstCells_world hq]; simp [h2]
     | halt x w2 => simp
theorem sim_append (r : R w0 φ h w) {sT xT ty : TypeId} {s x s' x' v : Value} (hs : aAppend P sT xT s x h = some (v, h')) (hv : VR φ s s') (hx : VR φ x x') : SimV w0 P φ h w (Builtin.append_ #[sT, xT] ty #[s', x']) v h' := by
 unfold aAppend at hs
 split at hs
 · rename_i el hu
   split at hs
   · rename_i k by_ z hk hb hz
     split at hs
     · rename_i n new l hnew hl
       split at hs
       · rename_i hc
         obtain ⟨hc1, hc2, hc3, hc4⟩ := hc
         obtain ⟨i, hi, hisz⟩ := rI' hk
         have hib : i.bytes = by_ := by unfold byOf at hb; rw [hi] at hb; simpa using hb
         have hz' : i.zero = some z := by
           unfold zeroOf at hz
           rw [hi] at hz
           dsimp only at hz
           split at hz
           · split at hz
             · cases hz; assumption
             · cases hz
           · cases hz
         have hzp := (rZero hz w).2
         subst hib
         subst hisz
         have fin : ∀ {new' : List Value}, LR φ new new' → (∀ base c, (Builtin.append_ #[sT, xT] ty #[.slice base l c, x']).run P w = (appTo i.size el i.bytes z.cells base l c n new').run P w) → SimV w0 P φ h w (Builtin.append_ #[sT, xT] ty #[s', x']) v h' := by
           intro new' hn he
           obtain ⟨base, l1, c, rfl, ⟨b0, c0, e0⟩, v', w', φ', h1, h2, h3, h4⟩ := sim_appTo (P := P) (el := el) (by_ := i.bytes) r isU8_eq hc1 hc3 hs hv hn hc2
           have : l1 = l := by rw [e0] at hl; simpa [lenV] using hl
           subst this
           exact ⟨v', w', φ', (he base c).trans h1, h2, h3, h4⟩
         unfold aNews at hnew
         split at hnew
         · rename_i hkk
           split at hnew
           · rename_i kk m
             split at hnew
             · rename_i hm
               cases hnew
               obtain rfl := hx.int_inv
               exact fin (zrep_rel (pfv_refl φ hzp).cells _) (fun base c => run_append_zeros hu hi hz' hkk hc4 hm.1 hm.2 rfl hc1)
             · cases hnew
           · cases hnew
         · rename_i hkk
           split at hnew
           · rename_i n' hn'
             split at hnew
             · rename_i l' hl'
               cases hnew
               obtain ⟨cs', h1, h2⟩ := first_ok (P := P) r hl' hx
               exact fin h2 (fun base c => run_append_list hu hi hz' hkk hc4 (lenV_ok hn' hx) h1)
             · cases hnew
           · cases hnew
         · cases hnew
       · cases hs
     · cases hs
   · cases hs
 · cases hs
def aCopy (P : Program) (dT : TypeId) (d x : Value) (h : AH) : Option (Value × AH) := match P.underlying dT, d, lenV x with
 | some (.slice el), .slice base dl dc, some n => (match szOf P el, aFirst ((szOf P el).getD 0) (min n dl) x h with
  | some _, some cs => if min n dl = 0 ∧ cs = [] then some (.int .i64 ((min n dl : Nat) : Int), h) else (match base with
   | some a => if dc = 0 ∨ dl = 0 then none else (match h.setcs a 0 cs with
    | some h' => some (.int .i64 ((min n dl : Nat) : Int), h')
    | none => none)
   | none => none)
  | _, _ => none)
 | _, _, _ => none
theorem sim_copy (r : R w0 φ h w) {dT xT ty : TypeId} {d x d' x' v : Value} (hs : aCopy P dT d x h = some (v, h')) (hd : VR φ d d') (hx : VR φ x x') : SimV w0 P φ h w (Builtin.copy_ #[dT, xT] ty #[d', x']) v h' := by
 unfold aCopy at hs
 split at hs
 · rename_i el base dl dc n hu hn
   split at hs
   · rename_i k cs hk hcs
     rw [hk] at hcs
     simp only [Option.getD_some] at hcs
     have hlen := lenV_ok (P := P) (w := w) hn hx
     obtain ⟨cs', h1, h2⟩ := first_ok (P := P) r hcs hx
     have h1' := h1 w rfl
     have hmin : Nat.min n dl = min n dl := rfl
     split at hs
     · rename_i h0
       cases hs
       obtain ⟨h0, hnil⟩ := h0
       subst hnil
       cases h2
       have : ∃ b c, d' = .slice b dl c := by cases hd <;> exact ⟨_, _, rfl⟩
       obtain ⟨b, c, rfl⟩ := this
       refine .here r (v' := .int .i64 (min n dl : Nat)) ?_ (.int _ _)
       unfold Builtin.copy_
       simp only [List.getElem?_toArray, List.getElem?_cons_zero, List.getElem?_cons_succ, run_underlying hu, Sem.run_bind, Result.andThen_ok, hlen, hmin, rSz hk, h1']
       cases b <;> simp [storeCells, goInt]
     · split at hs
       · rename_i a
         split at hs
         · cases hs
         · rename_i hdd
           split at hs
           · rename_i h3 hset
             cases hs
             obtain ⟨i, c', hi, hsp, rfl⟩ := hd.sl_some (by omega) (by omega)
             obtain ⟨w2, hw2, r2⟩ := R.setcs (P := P) hi _ _ r hset h2
             refine ⟨.int .i64 (min n dl : Nat), w2, φ, ?_, Nx.setcs hi trivial _ _ hset, r2, .int _ _⟩
             unfold Builtin.copy_
             simp only [List.getElem?_toArray, List.getElem?_cons_zero, List.getElem?_cons_succ, run_underlying hu, Sem.run_bind, Result.andThen_ok, hlen, hmin, rSz hk, h1']
             simp [hw2, goInt]
           · cases hs
       · cases hs
   · cases hs
 · cases hs
def aLen (P : Program) (T : TypeId) (x : Value) (h : AH) : Option Value := match P.underlying T, x with
 | some .string, .string s => some (.int .i64 s.size)
 | some (.array n _), _ => some (.int .i64 n)
 | some (.slice _), .slice _ n _ => some (.int .i64 n)
 | some (.map _ _), .map none => some (.int .i64 0)
 | some (.map _ _), .map (some r) => (match h.m.get r with
  | some (.map es _ _) => some (.int .i64 es.length)
  | _ => none)
 | some (.pointer arr), _ => (match P.underlying arr with
  | some (.array n _) => some (.int .i64 n)
  | _ => none)
 | _, _ => none
theorem VR.map_inv {b : Nat} {v : Value} (hv : VR φ (.map (some b)) v) : ∃ i, φ b = some i ∧ v = .map (some i.c) := by
 cases hv with
 | map i hi => exact ⟨i, hi, rfl⟩
theorem R.map (r : R w0 φ h w) {b : Nat} {i : Im} {es : List (Value × Value × Nat)} {clock : Nat} {ro : Bool} (hi : φ b = some i) (ho : h.m.get b = some (.map es clock ro)) :
  ∃ arr, (getObj i.c).run P w = .ok (.map arr clock) w ∧ w.heap[i.c]? = some (.map arr clock) ∧ ER φ es arr.toList := by
 obtain ⟨arr, h1, h2⟩ := r.dom _ _ _ hi ho
 exact ⟨arr, by simp [getObj, Sem.run, h1], h1, h2⟩
theorem sim_len (r : R w0 φ h w) {T ty : TypeId} {x x' v : Value} (hs : aLen P T x h = some v) (hx : VR φ x x') : SimV w0 P φ h w (Builtin.len_ #[T] ty #[x']) v h := by
 unfold aLen at hs
 split at hs
 · rename_i s hu
   cases hs; cases hx
   exact .here r (v' := .int .i64 s.size) (by simp [Builtin.len_, run_underlying hu, goInt]) (.int _ _)
 · rename_i n el hu
   cases hs
   exact .here r (v' := .int .i64 n) (by simp [Builtin.len_, run_underlying hu, goInt]) (.int _ _)
 · rename_i el b n c hu
   cases hs
   have : ∃ b c, x' = .slice b n c := by cases hx <;> exact ⟨_, _, rfl⟩
   obtain ⟨b', c', rfl⟩ := this
   exact .here r (v' := .int .i64 n) (by simp [Builtin.len_, run_underlying hu, goInt]) (.int _ _)
 · rename_i k el hu
   cases hs; cases hx
   exact .here r (v' := .int .i64 0) (by simp [Builtin.len_, run_underlying hu, goInt]) (.int _ _)
 · rename_i k el b hu
   split at hs
   · rename_i es clock ro ho
     cases hs
     obtain ⟨i, hi, rfl⟩ := hx.map_inv
     obtain ⟨arr, h1, _, h2⟩ := r.map (P := P) hi ho
     refine .here r (v' := .int .i64 es.length) ?_ (.int _ _)
     have : arr.size = es.length := by rw [h2.length]; simp
     simp [Builtin.len_, run_underlying hu, goInt, h1, this]
   · cases hs
 · rename_i arr hu
   split at hs
   · rename_i n el hu2
     cases hs
     exact .here r (v' := .int .i64 n) (by simp [Builtin.len_, run_underlying hu, run_underlying hu2, goInt]) (.int _ _)
   · cases hs
 · cases hs
def aCap (P : Program) (T : TypeId) (x : Value) : Option Value := match P.underlying T, x with
 | some (.slice _), .slice _ _ n => if n = open_ then none else some (.int .i64 n)
 | _, _ => none
theorem sim_cap (r : R w0 φ h w) {T ty : TypeId} {x x' v : Value} (hs : aCap P T x = some v) (hx : VR φ x x') : SimV w0 P φ h w (Builtin.cap_ #[T] ty #[x']) v h := by
 unfold aCap at hs
 split at hs
 · rename_i el b l n hu
   split at hs
   · cases hs
   · rename_i hn
     cases hs
     have : ∃ b, x' = .slice b l n := by cases hx <;> first | exact ⟨_, rfl⟩ | exact (hn rfl).elim
     obtain ⟨b', rfl⟩ := this
     exact .here r (v' := .int .i64 n) (by simp [Builtin.cap_, run_underlying hu, goInt]) (.int _ _)
 · cases hs
def aClear (P : Program) (T : TypeId) (x : Value) (h : AH) : Option AH := match P.underlying T, x with
 | some (.slice el), .slice b n c => if n = 0 then some h else (match b, zeroOf P el with
  | some a, some z => if c = 0 then none else h.setcs a 0 (zrep n (cellsL z))
  | _, _ => none)
 | _, _ => none
theorem sim_clear (r : R w0 φ h w) {T ty : TypeId} {x x' : Value} (hs : aClear P T x h = some h') (hx : VR φ x x') : SimV w0 P φ h w (Builtin.clear_ #[T] ty #[x']) undef h' := by
 unfold aClear at hs
 split at hs
 · rename_i el b n c hu
   split at hs
   · rename_i h0
     cases hs
     subst h0
     have : ∃ b c, x' = .slice b 0 c := by cases hx <;> exact ⟨_, _, rfl⟩
     obtain ⟨b', c', rfl⟩ := this
     refine .here r (v' := undef) ?_ .undef
     cases b' <;> simp [Builtin.clear_, run_underlying hu, undef]
   · rename_i h0
     split at hs
     · rename_i a z hz
       split at hs
       · cases hs
       · rename_i hc
         obtain ⟨i, c', hi, hsp, rfl⟩ := hx.sl_some hc h0
         obtain ⟨hz1, hz2⟩ := rZero hz w
         obtain ⟨w2, hw2, r2⟩ := R.setcs (P := P) hi _ _ r hs (zrep_rel (pfv_refl φ hz2).cells n)
         refine ⟨undef, w2, φ, ?_, Nx.setcs hi trivial _ _ hs, r2, .undef⟩
         obtain ⟨m, rfl⟩ : ∃ m, n = m + 1 := ⟨n - 1, by omega⟩
         simp [Builtin.clear_, run_underlying hu, hz1, zcells, hw2, undef]
     · cases hs
 · cases hs
end
end Go.X
namespace Go.X
noncomputable section
open Go Go.RowKit
variable {w0 w w' : World} {φ φ' : Phi} {h h' : AH} {P : Program}
theorem pureRun_bind {α β : Type} {P : Program} {e : Sem α} {f : α → Sem β} {b : β} : pureRun P (e.bind f) = some b → ∃ a, pureRun P e = some a ∧ pureRun P (f a) = some b := by
 induction e with
 | pure a => intro h; exact ⟨a, rfl, h⟩
 | program k ih => intro h; exact ih P h
 | mark m k ih => intro h; exact ih h
 | _ => intro h; simp [Sem.bind, pureRun] at h
theorem pureRun_bind' {α β : Type} {P : Program} {e : Sem α} {f : α → Sem β} {b : β} (h : pureRun P (e >>= f) = some b) : ∃ a, pureRun P e = some a ∧ pureRun P (f a) = some b := pureRun_bind h
def blank (l : List MapEntry) : List MapEntry := l.map fun e => ⟨e.key, .nilIface, 0⟩
def valAt (l : List MapEntry) (i : Nat) : Value := (l[i]?.map fun e => e.val).getD .nilIface
theorem valAt_zero (e : MapEntry) (l : List MapEntry) : valAt (e :: l) 0 = e.val := rfl
theorem valAt_succ (e : MapEntry) (l : List MapEntry) (i : Nat) : valAt (e :: l) (i + 1) = valAt l i := by simp [valAt]
theorem valAt_of {l : List MapEntry} {i : Nat} {e : MapEntry} (h : l[i]? = some e) : valAt l i = e.val := by simp [valAt, h]
theorem findNow_blank (kind : TypeDesc) (k : Value) : ∀ (l : List MapEntry) (i : Nat), Instr.findNow kind k l i = match Instr.findNow kind k (blank l) i with
  | none => none
  | some none => some none
  | some (some (j, _)) => some (some (j, valAt l (j - i)))
 | [], i => by simp [blank, Instr.findNow]
 | e :: l, i => by
  simp only [blank, List.map_cons, Instr.findNow]
  cases Instr.sameNow kind k e.key with
  | none => rfl
  | some b =>
   cases b with
   | true => simp [valAt_zero]
   | false =>
    dsimp only
    have ih := findNow_blank kind k l (i + 1)
    rw [ih]
    have mono : ∀ (m : List MapEntry) (q : Nat) (j : Nat) (v : Value), Instr.findNow kind k m q = some (some (j, v)) → q ≤ j := by
     intro m
     induction m with
     | nil => intro q j v h; simp [Instr.findNow] at h
     | cons e m ihm =>
      intro q j v h
      simp only [Instr.findNow] at h
      split at h
      · cases h; exact Nat.le_refl _
      · have := ihm _ _ _ h; omega
      · cases h
    show (match Instr.findNow kind k (blank l) (i + 1) with | none => none | some none => some none | some (some (j, _)) => some (some (j, valAt l (j - (i + 1))))) = _
    cases hf : Instr.findNow kind k (blank l) (i + 1) with
    | none => rw [show List.map (fun e => (⟨e.key, .nilIface, 0⟩ : MapEntry)) l = blank l from rfl, hf]
    | some o =>
     rw [show List.map (fun e => (⟨e.key, .nilIface, 0⟩ : MapEntry)) l = blank l from rfl, hf]
     cases o with
     | none => rfl
     | some p =>
      obtain ⟨j, v⟩ := p
      have hj := mono _ _ _ _ hf
      dsimp only
      rw [show j - i = (j - (i + 1)) + 1 by omega, valAt_succ]
theorem findAsking_blank {kt : TypeId} {k : Value} : ∀ (l : List MapEntry) (i : Nat) {o : Option (Nat × Value)}, pureRun P (Instr.findAsking kt k (blank l) i) = some o →
  pureRun P (Instr.findAsking kt k l i) = some (o.map fun p => (p.1, (valAt l (p.1 - i)))) ∧ ∀ p, o = some p → i ≤ p.1
 | [], i, o, h => by
  simp only [blank, List.map_nil, Instr.findAsking] at h ⊢
  have : o = none := by
   have h' : pureRun P (Sem.pure (none : Option (Nat × Value))) = some o := h
   simp only [pureRun] at h'; cases h'; rfl
  subst this
  exact ⟨rfl, fun p hp => by cases hp⟩
 | e :: l, i, o, h => by
  simp only [blank, List.map_cons, Instr.findAsking] at h ⊢
  obtain ⟨b, h1, h2⟩ := pureRun_bind' h
  have back : ∀ {β : Type} {f : Bool → Sem β} {x : Sem Bool} {r : Option β}, pureRun P x = some b → pureRun P (f b) = r → pureRun P (x >>= f) = r := by
   intro β f x r hx hf
   subst hf
   show pureRun P (x.bind f) = _
   clear h1 h
   induction x with
   | pure a => simp only [pureRun] at hx; cases hx; rfl
   | program k ih => exact ih P hx
   | mark m k ih => exact ih hx
   | _ => simp [pureRun] at hx
  cases b with
  | true =>
   rw [if_pos rfl] at h2
   have h2' : pureRun P (Sem.pure (some (i, Value.nilIface))) = some o := h2
   simp only [pureRun] at h2'
   cases h2'
   refine ⟨back h1 ?_, fun p hp => by cases hp; exact Nat.le_refl _⟩
   rw [if_pos rfl]
   simp [pure, pureRun, valAt_zero]
  | false =>
   rw [if_neg (by simp)] at h2
   obtain ⟨h3, h4⟩ := findAsking_blank l (i + 1) h2
   refine ⟨back h1 ?_, fun p hp => by have := h4 p hp; omega⟩
   rw [if_neg (by simp), h3]
   cases o with
   | none => rfl
   | some p =>
    have := h4 p rfl
    simp only [Option.map_some]
    rw [show p.1 - i = (p.1 - (i + 1)) + 1 by omega, valAt_succ]
theorem findKey_blank {kt : TypeId} {k : Value} {l : List MapEntry} {o : Option (Nat × Value)} (h : pureRun P (Instr.findKey kt k (blank l)) = some o) (w : World) :
  (Instr.findKey kt k l).run P w = .ok (o.map fun p => (p.1, valAt l p.1)) w := by
 unfold Instr.findKey at h ⊢
 obtain ⟨d, h1, h2⟩ := pureRun_bind' h
 have hr := run_of_pure h1 w
 rw [Sem.run_bind, hr, Result.andThen_ok, findNow_blank]
 cases hf : Instr.findNow d k (blank l) 0 with
 | none =>
  rw [hf] at h2
  have := (findAsking_blank l 0 h2).1
  simpa using run_of_pure this w
 | some r =>
  rw [hf] at h2
  have h2' : pureRun P (Sem.pure r) = some o := h2
  simp only [pureRun] at h2'
  cases h2'
  cases o with
  | none => simp
  | some p => simp
def keysOf (es : List (Value × Value × Nat)) : List MapEntry := es.map fun e => ⟨e.1, .nilIface, 0⟩
def aFind (P : Program) (kt : TypeId) (k : Value) (es : List (Value × Value × Nat)) : Option (Option Nat) :=
 if pfv k && es.all (fun e => pfv e.1) then (match pureRun P (Instr.findKey kt k (keysOf es)) with
  | some o => some (o.map (·.1))
  | none => none) else none
theorem ER.keys {es : List (Value × Value × Nat)} {l : List MapEntry} (he : ER φ es l) (hp : es.all (fun e => pfv e.1) = true) : keysOf es = blank l := by
 induction he with
 | nil => rfl
 | cons hk hv _ ih =>
  simp only [List.all_cons, Bool.and_eq_true] at hp
  have := pfv_same hp.1 hk
  subst this
  simp only [keysOf, blank, List.map_cons] at ih ⊢
  rw [ih hp.2]
theorem ER.get {es : List (Value × Value × Nat)} {l : List MapEntry} (he : ER φ es l) : ∀ {i : Nat} {e : Value × Value × Nat}, es[i]? = some e → ∃ e', l[i]? = some e' ∧ VR φ e.1 e'.key ∧ VR φ e.2.1 e'.val ∧ e'.born = e.2.2 := by
 induction he with
 | nil => intro i e h; simp at h
 | cons hk hv _ ih =>
  intro i e h
  cases i with
  | zero => simp at h; subst h; exact ⟨_, rfl, hk, hv, rfl⟩
  | succ i => simp at h; simpa using ih h
theorem find_ok {kt : TypeId} {k k' : Value} {es : List (Value × Value × Nat)} {l : List MapEntry} {o : Option Nat} (hs : aFind P kt k es = some o) (hk : VR φ k k') (he : ER φ es l) (w : World) :
   k' = k ∧ (∀ e, e ∈ es → pfv e.1 = true) ∧ ∃ o', (Instr.findKey kt k' l).run P w = .ok o' w ∧ match o with
     | none => o' = none
     | some i => o' = some (i, valAt l i) := by
 unfold aFind at hs
 split at hs
 · rename_i hp
   simp only [Bool.and_eq_true] at hp
   obtain rfl := pfv_same hp.1 hk
   refine ⟨rfl, fun e hm => List.all_eq_true.1 hp.2 e hm, ?_⟩
   split at hs
   · rename_i o1 ho
     cases hs
     rw [he.keys hp.2] at ho
     refine ⟨_, findKey_blank ho w, ?_⟩
     cases o1 with
     | none => rfl
     | some p => rfl
   · cases hs
 · cases hs
def aCheckKey (P : Program) (e : Bool) (kt : TypeId) (k : Value) : Bool := (pureRun P (Instr.checkKey e 10000 kt k)).isSome
theorem checkKey_ok {e : Bool} {kt : TypeId} {k : Value} (hc : aCheckKey P e kt k = true) (w : World) : (Instr.checkKey e 10000 kt k).run P w = .ok () w := by
 unfold aCheckKey at hc
 obtain ⟨u, hu⟩ := Option.isSome_iff_exists.1 hc
 exact run_of_pure hu w
def tupOk (commaOk : Bool) (v : Value) (ok : Bool) : Value := if commaOk then .tuple #[v, .bool ok] else v
theorem tupOk_rel {c ok : Bool} {v v' : Value} (hv : VR φ v v') : VR φ (tupOk c v ok) (tupOk c v' ok) := by
 unfold tupOk
 split
 · exact .tuple' (.cons hv (.cons (.bool _) .nil))
 · exact hv
def aLookup (P : Program) (T : TypeId) (x k : Value) (c : Bool) (h : AH) : Option Value := match P.underlying T with
 | some (.map kt el) => (match (match x with
   | .map none => some []
   | .map (some r) => (match h.m.get r with
    | some (.map es _ _) => some es
    | _ => none)
   | _ => none) with
  | some es => if aCheckKey P es.isEmpty kt k then (match aFind P kt k es with
   | some (some i) => (match es[i]? with
    | some e => some (tupOk c e.2.1 true)
    | none => none)
   | some none => (match zeroOf P el with
    | some z => some (tupOk c z false)
    | none => none)
   | none => none) else none
  | none => none)
 | _ => none
theorem sim_lookup (r : R w0 φ h w) {T : TypeId} {x k x' k' v : Value} {c : Bool} (hs : aLookup P T x k c h = some v) (hx : VR φ x x') (hk : VR φ k k') : SimV w0 P φ h w (Instr.lookup T x' k' c) v h := by
 unfold aLookup at hs
 split at hs
 · rename_i kt el hu
   split at hs
   · rename_i es hes
     have hex : ∃ arr : Array MapEntry, ER φ es arr.toList ∧ arr.isEmpty = es.isEmpty ∧ ((x' = .map none ∧ arr = #[]) ∨ ∃ b cl, x' = .map (some b) ∧ (getObj b).run P w = .ok (.map arr cl) w) := by
       split at hes
       · cases hes; cases hx
         exact ⟨#[], .nil, rfl, .inl ⟨rfl, rfl⟩⟩
       · split at hes
         · rename_i b es' cl ro ho
           cases hes
           obtain ⟨i, hi, rfl⟩ := hx.map_inv
           obtain ⟨arr, h1, _, h2⟩ := r.map (P := P) hi ho
           refine ⟨arr, h2, ?_, .inr ⟨_, _, rfl, h1⟩⟩
           have hl : es.length = arr.size := by rw [h2.length]; simp
           rw [Bool.eq_iff_iff, Array.isEmpty_iff_size_eq_zero, List.isEmpty_iff_length_eq_zero, hl]
         · cases hes
       · cases hes
     obtain ⟨arr, her, hemp, hx'⟩ := hex
     split at hs
     · rename_i hck
       have fin : ∀ {o : Option Nat}, aFind P kt k es = some o → k' = k ∧ ∀ (v' : Value) , (match o with
           | none => (zeroValue el).run P w = .ok v' w
           | some i => v' = valAt arr.toList i) → (Instr.lookup T x' k' c).run P w = .ok (tupOk c v' o.isSome) w := by
         intro o ho
         obtain ⟨rfl, _, o', h3, h4⟩ := find_ok ho hk her w
         refine ⟨rfl, fun v' hv' => ?_⟩
         have hc := checkKey_ok hck w
         unfold Instr.lookup
         simp only [Sem.run_bind, run_underlying hu, Result.andThen_ok]
         rcases hx' with ⟨rfl, rfl⟩ | ⟨b, cl, rfl, hb⟩
         · have hc' : (Instr.checkKey (#[] : Array MapEntry).isEmpty 10000 kt k').run P w = .ok () w := by rw [hemp]; exact hc
           simp only [Sem.run_pure, Sem.run_bind, Result.andThen_ok, hc', h3]
           cases o with
           | none => subst h4; simp [hv', tupOk]
           | some i => subst h4; simp [hv', tupOk]
         · have hc' : (Instr.checkKey arr.isEmpty 10000 kt k').run P w = .ok () w := by rw [hemp]; exact hc
           simp only [Sem.run_pure, Sem.run_bind, Result.andThen_ok, hb, hc', h3]
           cases o with
           | none => subst h4; simp [hv', tupOk]
           | some i => subst h4; simp [hv', tupOk]
       split at hs
       · rename_i i hf
         split at hs
         · rename_i e he
           cases hs
           obtain ⟨e', h5, h6, h7, _⟩ := her.get he
           have := (fin hf).2 e'.val (valAt_of h5).symm
           exact .here r this (tupOk_rel h7)
         · cases hs
       · rename_i hf
         split at hs
         · rename_i z hz
           cases hs
           obtain ⟨hz1, hz2⟩ := rZero hz w
           exact .here r ((fin hf).2 z hz1) (tupOk_rel (pfv_refl φ hz2))
         · cases hs
       · cases hs
     · cases hs
   · cases hs
 · cases hs
def setV : List (Value × Value × Nat) → Nat → Value → Value → List (Value × Value × Nat)
 | [], _, _, _ => []
 | (_, _, b) :: l, 0, k, v => (k, v, b) :: l
 | e :: l, i + 1, k, v => e :: setV l i k v
theorem ER.setV {es : List (Value × Value × Nat)} {l : List MapEntry} (he : ER φ es l) {k v k' v' : Value} (hk : VR φ k k') (hv : VR φ v v') : ∀ i, ER φ (setV es i k v) (l.modify i fun e => { e with key := k', val := v' }) := by
 induction he with
 | nil => intro i; cases i <;> exact .nil
 | cons h1 h2 t ih =>
  intro i
  cases i with
  | zero => exact .cons hk hv t
  | succ i => exact .cons h1 h2 (ih i)
theorem ER.append {es es2 : List (Value × Value × Nat)} {l l2 : List MapEntry} (he : ER φ es l) (h2 : ER φ es2 l2) : ER φ (es ++ es2) (l ++ l2) := by
 induction he with
 | nil => exact h2
 | cons h1 h2 _ ih => exact .cons h1 h2 ih
theorem ER.push {es : List (Value × Value × Nat)} {l : List MapEntry} (he : ER φ es l) {k v k' v' : Value} (hk : VR φ k k') (hv : VR φ v v') (b : Nat) : ER φ (es ++ [(k, v, b)]) (l ++ [⟨k', v', b⟩]) :=
 he.append (.cons hk hv .nil)
theorem ER.erase {es : List (Value × Value × Nat)} {l : List MapEntry} (he : ER φ es l) : ∀ i, ER φ (es.eraseIdx i) (l.eraseIdx i) := by
 induction he with
 | nil => intro i; simp; exact .nil
 | cons h1 h2 t ih =>
  intro i
  cases i with
  | zero => simpa using t
  | succ i => simpa using .cons h1 h2 (ih i)
theorem R.setMap (r : R w0 φ h w) {b : Nat} {i : Im} {es es2 : List (Value × Value × Nat)} {cl cl2 : Nat} {arr2 : Array MapEntry} (hi : φ b = some i) (ho : h.m.get b = some (.map es cl false)) (he : ER φ es2 arr2.toList) :
  (setObj i.c (.map arr2 cl2)).run P w = .ok () (putW w i.c (.map arr2 cl2)) ∧ R w0 φ { h with m := h.m.set b (some (.map es2 cl2 false)) } (putW w i.c (.map arr2 cl2)) ∧ Nx φ φ h { h with m := h.m.set b (some (.map es2 cl2 false)) } := by
 obtain ⟨arr, h1, h2, h3⟩ := r.map (P := P) hi ho
 refine ⟨?_, r.put hi ho rfl (fun w' hw' => ⟨arr2, hw', he⟩), Nx.put hi trivial⟩
 simp [setObj, Sem.run, h2, putW]
def aSetMap (h : AH) (b : Nat) (es : List (Value × Value × Nat)) (cl : Nat) : AH := { h with m := h.m.set b (some (.map es cl false)) }
def stays (old new : Value) : Bool := Instr.sameBits 10000 old new
theorem stays_ok {old new : Value} (hs : stays old new = true) (w : World) : (Instr.keyThatStays old new).run P w = .ok new w := by
 unfold Instr.keyThatStays
 unfold stays at hs
 rw [if_pos hs]; rfl
def aUpdate (P : Program) (T : TypeId) (x k v : Value) (h : AH) : Option AH := match P.underlying T, x with
 | some (.map kt _), .map (some b) => (match h.m.get b with
  | some (.map es cl false) => if aCheckKey P false kt k then (match aFind P kt k es with
   | some (some i) => (match es[i]? with
    | some e => if stays e.1 k then some (aSetMap h b (setV es i k v) cl) else none
    | none => none)
   | some none => some (aSetMap h b (es ++ [(k, v, cl)]) (cl + 1))
   | none => none) else none
  | _ => none)
 | _, _ => none
theorem toList_modify {α : Type} (a : Array α) (i : Nat) (f : α → α) : (a.modify i f).toList = a.toList.modify i f := by simp
theorem sim_update (r : R w0 φ h w) {T : TypeId} {x k v x' k' v' : Value} (hs : aUpdate P T x k v h = some h') (hx : VR φ x x') (hk : VR φ k k') (hv : VR φ v v') :
   ∃ w', (Instr.mapUpdate T x' k' v').run P w = .ok () w' ∧ Nx φ φ h h' ∧ R w0 φ h' w' := by
 unfold aUpdate at hs
 split at hs
 · rename_i kt el b hu
   split at hs
   · rename_i es cl ho
     split at hs
     · rename_i hck
       obtain ⟨i, hi, rfl⟩ := hx.map_inv
       obtain ⟨arr, h1, _, h2⟩ := r.map (P := P) hi ho
       have hc := checkKey_ok hck w
       unfold Instr.mapUpdate
       simp only [Sem.run_bind, run_underlying hu, Result.andThen_ok]
       split at hs
       · rename_i j hf
         split at hs
         · rename_i e he
           split at hs
           · rename_i hst
             cases hs
             obtain ⟨rfl, hpk, o', h3, h4⟩ := find_ok hf hk h2 w
             subst h4
             obtain ⟨e', h5, h6, h7, _⟩ := h2.get he
             have hke : e'.key = e.1 := pfv_same (hpk e (List.mem_of_getElem? he)) h6
             have hold : ((arr[j]?.map (·.key)).getD k') = e.1 := by
              rw [Array.getElem?_toList] at h5
              rw [h5]; exact hke
             obtain ⟨q1, q2, q3⟩ := r.setMap (P := P) (cl2 := cl) (es2 := setV es j k' v) (arr2 := arr.modify j fun e => { e with key := k', val := v' }) hi ho (by rw [toList_modify]; exact h2.setV hk hv j)
             refine ⟨_, ?_, q3, q2⟩
             simp only [h1, Result.andThen_ok, Sem.run_bind, hc, h3, hold, stays_ok hst, q1]
           · cases hs
         · cases hs
       · rename_i hf
         cases hs
         obtain ⟨rfl, hpk, o', h3, h4⟩ := find_ok hf hk h2 w
         subst h4
         obtain ⟨q1, q2, q3⟩ := r.setMap (P := P) (cl2 := cl + 1) (es2 := es ++ [(k', v, cl)]) (arr2 := arr.push ⟨k', v', cl⟩) hi ho (by rw [Array.toList_push]; exact h2.push hk hv cl)
         refine ⟨_, ?_, q3, q2⟩
         simp only [h1, Result.andThen_ok, Sem.run_bind, hc, h3, q1]
       · cases hs
     · cases hs
   · cases hs
 · cases hs
def aEntry (P : Program) (T : TypeId) (x k : Value) (h : AH) : Option (Value × AH) := match P.underlying T, x with
 | some (.map kt el), .map (some b) => (match h.m.get b with
  | some (.map es cl false) => if aCheckKey P false kt k then (match aFind P kt k es with
   | some (some i) => (match es[i]? with
    | some e => if stays e.1 k then some (.tuple #[e.2.1, .int .i64 e.2.2], aSetMap h b (setV es i k e.2.1) cl) else none
    | none => none)
   | some none => (match zeroOf P el with
    | some z => some (.tuple #[z, .int .i64 cl], aSetMap h b (es ++ [(k, z, cl)]) (cl + 1))
    | none => none)
   | none => none) else none
  | _ => none)
 | _, _ => none
theorem modify_key {l : List MapEntry} {j : Nat} {k : Value} {e : MapEntry} (he : l[j]? = some e) : (l.modify j fun x => { x with key := k }) = l.modify j fun x => { x with key := k, val := e.val } := by
 apply List.ext_getElem?
 intro i
 rw [List.getElem?_modify, List.getElem?_modify]
 by_cases hij : j = i
 · subst hij; simp [he]
 · simp [hij]
theorem sim_entry (r : R w0 φ h w) {T : TypeId} {x k x' k' v : Value} (hs : aEntry P T x k h = some (v, h')) (hx : VR φ x x') (hk : VR φ k k') : SimV w0 P φ h w (Instr.mapEntry T x' k') v h' := by
 unfold aEntry at hs
 split at hs
 · rename_i kt el b hu
   split at hs
   · rename_i es cl ho
     split at hs
     · rename_i hck
       obtain ⟨i, hi, rfl⟩ := hx.map_inv
       obtain ⟨arr, h1, _, h2⟩ := r.map (P := P) hi ho
       have hc := checkKey_ok hck w
       unfold Instr.mapEntry
       split at hs
       · rename_i j hf
         split at hs
         · rename_i e he
           split at hs
           · rename_i hst
             cases hs
             obtain ⟨rfl, hpk, o', h3, h4⟩ := find_ok hf hk h2 w
             subst h4
             obtain ⟨e', h5, h6, h7, h8⟩ := h2.get he
             have hke : e'.key = e.1 := pfv_same (hpk e (List.mem_of_getElem? he)) h6
             have h5' := h5
             rw [Array.getElem?_toList] at h5
             have hold : ((arr[j]?.map (·.key)).getD k') = e.1 := by rw [h5]; exact hke
             have hborn : ((arr[j]?.map (fun x => (x.born : Int))).getD 0) = (e.2.2 : Int) := by rw [h5]; show (e'.born : Int) = _; rw [h8]
             obtain ⟨q1, q2, q3⟩ := r.setMap (P := P) (cl2 := cl) (es2 := setV es j k' e.2.1) (arr2 := arr.modify j fun e => { e with key := k' }) hi ho
              (by rw [toList_modify, modify_key h5']; exact h2.setV hk h7 j)
             refine ⟨.tuple #[e'.val, .int .i64 e.2.2], _, φ, ?_, q3, q2, .tuple' (.cons h7 (.cons (.int _ _) .nil))⟩
             simp only [Sem.run_bind, run_underlying hu, Result.andThen_ok, h1, hc, h3, hold, hborn, stays_ok hst, q1, valAt_of h5', goInt, Sem.run_pure]
           · cases hs
         · cases hs
       · rename_i hf
         split at hs
         · rename_i z hz
           cases hs
           obtain ⟨hz1, hz2⟩ := rZero hz w
           obtain ⟨rfl, hpk, o', h3, h4⟩ := find_ok hf hk h2 w
           subst h4
           obtain ⟨q1, q2, q3⟩ := r.setMap (P := P) (cl2 := cl + 1) (es2 := es ++ [(k', z, cl)]) (arr2 := arr.push ⟨k', z, cl⟩) hi ho (by rw [Array.toList_push]; exact h2.push hk (pfv_refl φ hz2) cl)
           refine ⟨.tuple #[z, .int .i64 cl], _, φ, ?_, q3, q2, .tuple' (.cons (pfv_refl φ hz2) (.cons (.int _ _) .nil))⟩
           simp only [Sem.run_bind, run_underlying hu, Result.andThen_ok, h1, hc, h3, q1, hz1, goInt, Sem.run_pure]
         · cases hs
       · cases hs
     · cases hs
   · cases hs
 · cases hs
def bornIdx : List (Value × Value × Nat) → Int → Nat → Option Nat
 | [], _, _ => none
 | e :: l, b, i => if (e.2.2 : Int) = b then some i else bornIdx l b (i + 1)
theorem bornIdx_ok {es : List (Value × Value × Nat)} {l : List MapEntry} (he : ER φ es l) : ∀ (b : Int) (q : Nat), bornIdx es b q = (l.findIdx? (fun e => (e.born : Int) == b)).map (q + ·) := by
 induction he with
 | nil => intro b q; rfl
 | @cons k v k' v' b0 l l' hk hv t ih =>
  intro b q
  simp only [bornIdx, List.findIdx?_cons]
  by_cases e : (b0 : Int) = b
  · simp [e]
  · rw [if_neg e, ih]
    have : ((b0 : Int) == b) = false := by simpa using e
    simp only [this, Bool.false_eq_true, if_false, Option.map_map]
    congr 1
    funext x
    simp only [Function.comp]
    omega
def aEStore (T : TypeId) (x s v : Value) (h : AH) : Option AH := match x, s with
 | .map (some b), .int _ st => (match h.m.get b with
  | some (.map es cl false) => (match bornIdx es st 0 with
   | some i => (match es[i]? with
    | some e => some (aSetMap h b (setV es i e.1 v) cl)
    | none => none)
   | none => none)
  | _ => none)
 | _, _ => if T = T then none else none
theorem modify_val {l : List MapEntry} {j : Nat} {v : Value} {e : MapEntry} (he : l[j]? = some e) : (l.modify j fun x => { x with val := v }) = l.modify j fun x => { x with key := e.key, val := v } := by
 apply List.ext_getElem?
 intro i
 rw [List.getElem?_modify, List.getElem?_modify]
 by_cases hij : j = i
 · subst hij; simp [he]
 · simp [hij]
theorem sim_estore (r : R w0 φ h w) {T : TypeId} {x k v x' k' v' : Value} (hs : aEStore T x k v h = some h') (hx : VR φ x x') (hk : VR φ k k') (hv : VR φ v v') :
   ∃ w', (Instr.entryStore T x' k' v').run P w = .ok () w' ∧ Nx φ φ h h' ∧ R w0 φ h' w' := by
 unfold aEStore at hs
 split at hs
 · rename_i b kk st
   split at hs
   · rename_i es cl ho
     split at hs
     · rename_i j hj
       split at hs
       · rename_i e he
         cases hs
         obtain ⟨i, hi, rfl⟩ := hx.map_inv
         obtain rfl := hk.int_inv
         obtain ⟨arr, h1, _, h2⟩ := r.map (P := P) hi ho
         obtain ⟨e', h5, h6, h7, h8⟩ := h2.get he
         have hfi : arr.findIdx? (fun e => (e.born : Int) == st) = some j := by
          have := bornIdx_ok h2 st 0
          rw [hj] at this
          have e9 : arr.findIdx? (fun e => (e.born : Int) == st) = arr.toList.findIdx? (fun e => (e.born : Int) == st) := by
           rw [← List.findIdx?_toArray, Array.toArray_toList]
          rw [e9]
          cases hq : arr.toList.findIdx? (fun e => (e.born : Int) == st) with
          | none => rw [hq] at this; cases this
          | some q => rw [hq] at this; simpa using this.symm
         obtain ⟨q1, q2, q3⟩ := r.setMap (P := P) (cl2 := cl) (es2 := setV es j e.1 v) (arr2 := arr.modify j fun e => { e with val := v' }) hi ho (by rw [toList_modify, modify_val h5]; exact h2.setV h6 hv j)
         refine ⟨_, ?_, q3, q2⟩
         simp only [Instr.entryStore, Sem.run_bind, h1, Result.andThen_ok, asInt, asIntOf, Sem.run_pure, hfi, q1]
       · cases hs
     · cases hs
   · cases hs
 · simp at hs
def aDelete (P : Program) (T : TypeId) (x k : Value) (h : AH) : Option AH := match P.underlying T, x with
 | some (.map kt _), .map (some b) => (match h.m.get b with
  | some (.map es cl false) => if aCheckKey P es.isEmpty kt k then (match aFind P kt k es with
   | some (some i) => some (aSetMap h b (es.eraseIdx i) cl)
   | some none => some (aSetMap h b es cl)
   | none => none) else none
  | _ => none)
 | _, _ => none
theorem sim_delete (r : R w0 φ h w) {T ty T2 : TypeId} {x k x' k' : Value} (hs : aDelete P T x k h = some h') (hx : VR φ x x') (hk : VR φ k k') : SimV w0 P φ h w (Builtin.delete_ #[T, T2] ty #[x', k']) undef h' := by
 unfold aDelete at hs
 split at hs
 · rename_i kt el b hu
   split at hs
   · rename_i es cl ho
     split at hs
     · rename_i hck
       obtain ⟨i, hi, rfl⟩ := hx.map_inv
       obtain ⟨arr, h1, _, h2⟩ := r.map (P := P) hi ho
       have hemp : arr.isEmpty = es.isEmpty := by
         have hl : es.length = arr.size := by rw [h2.length]; simp
         rw [Bool.eq_iff_iff, Array.isEmpty_iff_size_eq_zero, List.isEmpty_iff_length_eq_zero, hl]
       have hc := checkKey_ok hck w
       rw [← hemp] at hc
       split at hs
       · rename_i j hf
         cases hs
         obtain ⟨rfl, hpk, o', h3, h4⟩ := find_ok hf hk h2 w
         subst h4
         obtain ⟨q1, q2, q3⟩ := r.setMap (P := P) (cl2 := cl) (es2 := es.eraseIdx j) (arr2 := arr.eraseIdxIfInBounds j) hi ho (by rw [Array.toList_eraseIdxIfInBounds]; exact h2.erase j)
         refine ⟨undef, _, φ, ?_, q3, q2, .undef⟩
         simp [Builtin.delete_, run_underlying hu, h1, hc, h3, q1, undef]
       · rename_i hf
         cases hs
         obtain ⟨rfl, hpk, o', h3, h4⟩ := find_ok hf hk h2 w
         subst h4
         obtain ⟨q1, q2, q3⟩ := r.setMap (P := P) (cl2 := cl) (es2 := es) (arr2 := arr) hi ho h2
         refine ⟨undef, _, φ, ?_, q3, q2, .undef⟩
         simp [Builtin.delete_, run_underlying hu, h1, hc, h3, q1, undef]
       · cases hs
     · cases hs
   · cases hs
 · cases hs
end
end Go.X
namespace Go.X
noncomputable section
open Go Go.RowKit
variable {w0 w w' : World} {φ φ' : Phi} {h h' : AH} {P : Program}
def AH.newObj (h : AH) (o : AObj) : Option (Nat × AH) := if true = true then some (h.next, ⟨h.m.set h.next (some o), h.next + 1⟩) else none
theorem R.newObj (r : R w0 φ h w) {o : AObj} {x : Obj} {b : Nat} (hs : h.newObj o = some (b, h')) (hx : ∀ φ' w', Le φ φ' → w'.heap[w.heap.size]? = some x → OR φ' ⟨w.heap.size, 0, 0, 0, 0⟩ w' o) :
   ∃ φ', Nx φ φ' h h' ∧ φ' b = some ⟨w.heap.size, 0, 0, 0, 0⟩ ∧ R w0 φ' h' (w.alloc x) := by
 unfold AH.newObj at hs
 split at hs
 · rename_i _
   cases hs
   obtain ⟨φ', le, h1, h2, h3⟩ := r.new (i := ⟨w.heap.size, 0, 0, 0, 0⟩) (o := o) (x := x) rfl trivial hx
   exact ⟨φ', .new le h3 trivial, h1, h2⟩
 · cases hs
def resOk (P : Program) (T : TypeId) : Option Value → Bool
 | none => true
 | some (.int _ _) => (match P.underlying T with | some (.map _ _) => true | _ => false)
 | _ => false
def aMakeMap (P : Program) (T : TypeId) (res : Option Value) (h : AH) : Option (Value × AH) :=
 if resOk P T res then (match h.newObj (.map [] 0 false) with
  | some (b, h') => some (.map (some b), h')
  | none => none) else none
def aRange (P : Program) (T : TypeId) (x : Value) (h : AH) : Option (Value × AH) :=
 match (match P.underlying T, x with
  | some .string, .string s => some (AObj.sit s 0)
  | some (.map _ _), .map none => some (.iter none 0 [] 0)
  | some (.map _ _), .map (some b) => (match h.m.get b with
   | some (.map _ cl _) => some (.iter (some b) cl [] cl)
   | _ => none)
  | _, _ => none) with
 | some o => (match h.newObj o with
  | some (b, h') => some (.pointer (some ⟨b, 0, none⟩), h')
  | none => none)
 | none => none
theorem sim_range (r : R w0 φ h w) {T : TypeId} {x x' v : Value} (hs : aRange P T x h = some (v, h')) (hx : VR φ x x') : SimV w0 P φ h w (Instr.range T x') v h' := by
 unfold aRange at hs
 split at hs
 · rename_i o ho
   split at hs
   · rename_i b h1 hn
     cases hs
     have fin : ∀ {y : Obj}, (∀ φ' w', Le φ φ' → w'.heap[w.heap.size]? = some y → OR φ' ⟨w.heap.size, 0, 0, 0, 0⟩ w' o) → (Instr.range T x').run P w = .ok (.pointer (some ⟨w.heap.size, 0, none⟩)) (w.alloc y) →
         SimV w0 P φ h w (Instr.range T x') (.pointer (some ⟨b, 0, none⟩)) h' := by
       intro y hy hrun
       obtain ⟨φ', nx, hb, r'⟩ := r.newObj (x := y) hn hy
       exact ⟨_, _, φ', hrun, nx, r', .ptr (a := ⟨b, 0, none⟩) ⟨w.heap.size, 0, 0, 0, 0⟩ hb rfl⟩
     split at ho
     · rename_i s hu
       cases ho; cases hx
       exact fin (y := .stringIter s 0) (fun φ' w' _ hw => ⟨rfl, hw⟩) (by simp [Instr.range, run_underlying hu])
     · rename_i k el hu
       cases ho; cases hx
       exact fin (y := .mapIter none 0 #[] 0) (fun φ' w' _ hw => ⟨rfl, none, hw, .nilm⟩) (by simp [Instr.range, run_underlying hu])
     · rename_i k el bm hu
       split at ho
       · rename_i es cl ro hm
         cases ho
         obtain ⟨i, hi, rfl⟩ := hx.map_inv
         obtain ⟨arr, h1, _, h2⟩ := r.map (P := P) hi hm
         exact fin (y := .mapIter (some i.c) cl #[] cl) (fun φ' w' le hw => ⟨rfl, some i.c, hw, .map i (le _ _ hi)⟩) (by simp [Instr.range, run_underlying hu, h1])
       · cases ho
     · cases ho
   · cases hs
 · cases hs
def nextOuts (h : AH) (b bm : Nat) (since : Nat) (seen : List Nat) (cl : Nat) (es : List (Value × Value × Nat)) : List (Value × AH) :=
 let left := es.filter fun e => !seen.contains e.2.2
 let old := left.filter fun e => decide (e.2.2 < since)
 let new := left.filter fun e => !decide (e.2.2 < since)
 (if old.isEmpty then [(.tuple #[.bool false], h)] else []) ++
  (old ++ new).map fun e => (.tuple #[.bool true, e.1, e.2.1], { h with m := h.m.set b (some (.iter (some bm) since (seen ++ [e.2.2]) cl)) })
def aNext (it : Value) (isString : Bool) (h : AH) : Option (List (Value × AH)) := match it with
  | .pointer (some ⟨b, 0, none⟩) => (match h.m.get b, isString with
    | some (.sit s p), true => if p < s.size then
        (match Utf8.decode s p with
         | (c, width) => some [(.tuple #[.bool true, .int .i64 p, .int .i32 c], { h with m := h.m.set b (some (.sit s (p + width))) })])
      else some [(.tuple #[.bool false], h)]
    | some (.iter none _ _ _), false => some [(.tuple #[.bool false], h)]
    | some (.iter (some bm) since seen st), false => (match h.m.get bm with
      | some (.map es cl _) => if !seen.isEmpty && !es.isEmpty && es.all (fun e => decide (e.2.2 ≥ st)) then none else some (nextOuts h b bm since seen cl es)
      | _ => none)
    | _, _ => none)
  | _ => none
theorem ER.filter {es : List (Value × Value × Nat)} {l : List MapEntry} (he : ER φ es l) (p : Nat → Bool) : ER φ (es.filter fun e => p e.2.2) (l.filter fun e => p e.born) := by
 induction he with
 | nil => exact .nil
 | @cons k v k' v' b l l' hk hv _ ih =>
  simp only [List.filter_cons]
  by_cases hb : p b = true
  · rw [if_pos hb, if_pos hb]; exact .cons hk hv ih
  · rw [if_neg hb, if_neg hb]; exact ih
theorem ER.all {es : List (Value × Value × Nat)} {l : List MapEntry} (he : ER φ es l) (p : Nat → Bool) : (es.all fun e => p e.2.2) = (l.all fun e => p e.born) := by
 induction he with
 | nil => rfl
 | cons _ _ _ ih => simp [List.all_cons, ih]
theorem ER.get' {es : List (Value × Value × Nat)} {l : List MapEntry} (he : ER φ es l) : ∀ {i : Nat} {e' : MapEntry}, l[i]? = some e' → ∃ e, es[i]? = some e ∧ VR φ e.1 e'.key ∧ VR φ e.2.1 e'.val ∧ e'.born = e.2.2 := by
 induction he with
 | nil => intro i e h; simp at h
 | cons hk hv _ ih =>
  intro i e h
  cases i with
  | zero => simp at h; subst h; exact ⟨_, rfl, hk, hv, rfl⟩
  | succ i => simp at h; simpa using ih h
theorem R.iterPut (r : R w0 φ h w) {b : Nat} {i : Im} {m m' : Option Nat} {since st since2 st2 : Nat} {seen seen2 : List Nat} (hi : φ b = some i) (ho : h.m.get b = some (.iter m since seen st)) (hm : VR φ (.map m) (.map m')) :
  R w0 φ { h with m := h.m.set b (some (.iter m since2 seen2 st2)) } (putW w i.c (.mapIter m' since2 ⟨seen2⟩ st2)) ∧ Nx φ φ h { h with m := h.m.set b (some (.iter m since2 seen2 st2)) } :=
 ⟨r.put hi ho rfl (fun _ hw => ⟨(r.dom _ _ _ hi ho).1, m', hw, hm⟩), Nx.put hi trivial⟩
theorem sim_next (r : R w0 φ h w) {it it' : Value} {isS : Bool} {ty : TypeId} {l : List (Value × AH)} (hs : aNext it isS h = some l) (hit : VR φ it it') : ∃ v h', (v, h') ∈ l ∧ SimV w0 P φ h w (Instr.next it' isS ty) v h' := by
 unfold aNext at hs
 split at hs
 · rename_i b
   obtain ⟨i, hi, _, rfl⟩ := hit.ptr_inv
   have hi : φ b = some i := hi
   split at hs
   · rename_i s p ho
     obtain ⟨hd, hw⟩ := r.dom _ _ _ hi ho
     have hget : (getObj i.c).run P w = .ok (.stringIter s p) w := by simp [getObj, Sem.run, hw]
     rw [hd]
     split at hs
     · rename_i hp
       cases hs
       refine ⟨_, _, List.mem_singleton.2 rfl, ⟨.tuple #[.bool true, goInt p, .int .i32 (Utf8.decode s p).1], putW w i.c (.stringIter s (p + (Utf8.decode s p).2)), φ, ?_, Nx.put hi trivial, r.put hi ho rfl (fun w' hw' => ⟨hd, hw'⟩), .tuple' (.cons (.bool _) (.cons (.int _ _) (.cons (.int _ _) .nil)))⟩⟩
       have hset : (setObj i.c (.stringIter s (p + (Utf8.decode s p).2))).run P w = .ok () (putW w i.c (.stringIter s (p + (Utf8.decode s p).2))) := by simp [setObj, Sem.run, hw, putW]
       simp [Instr.next, hget, hp, hset]
     · rename_i hp
       cases hs
       refine ⟨_, _, List.mem_singleton.2 rfl, .here r (v' := .tuple #[.bool false]) ?_ (.tuple' (.cons (.bool _) .nil))⟩
       simp [Instr.next, hget, hp]
   · rename_i since seen st ho
     obtain ⟨hd, m', hw, hm⟩ := r.dom _ _ _ hi ho
     cases hm
     cases hs
     have hget : (getObj i.c).run P w = .ok (.mapIter none since ⟨seen⟩ st) w := by simp [getObj, Sem.run, hw]
     rw [hd]
     refine ⟨_, _, List.mem_singleton.2 rfl, .here r (v' := .tuple #[.bool false]) ?_ (.tuple' (.cons (.bool _) .nil))⟩
     simp [Instr.next, hget]
   · rename_i bm since seen st ho
     obtain ⟨hd, m', hw, hm⟩ := r.dom _ _ _ hi ho
     obtain ⟨im, him, e⟩ := hm.map_inv
     cases e
     have hget : (getObj i.c).run P w = .ok (.mapIter (some im.c) since ⟨seen⟩ st) w := by simp [getObj, Sem.run, hw]
     rw [hd]
     split at hs
     · rename_i es cl ro hom
       obtain ⟨arr, h1, _, h2⟩ := r.map (P := P) him hom
       split at hs
       · cases hs
       · rename_i hns
         cases hs
         have hns' : ¬ (!(⟨seen⟩ : Array Nat).isEmpty && !arr.isEmpty && arr.all (fun e => decide (e.born ≥ st))) = true := by
           intro hh
           apply hns
           have e1 : arr.all (fun e => decide (e.born ≥ st)) = es.all fun e => decide (e.2.2 ≥ st) := by
             rw [h2.all (fun b => decide (b ≥ st)), ← Array.all_toList]
           have e2 : arr.isEmpty = es.isEmpty := by
             have hl : es.length = arr.size := by rw [h2.length]; simp
             rw [Bool.eq_iff_iff, Array.isEmpty_iff_size_eq_zero, List.isEmpty_iff_length_eq_zero, hl]
           have e3 : (⟨seen⟩ : Array Nat).isEmpty = seen.isEmpty := by
             rw [Bool.eq_iff_iff, Array.isEmpty_iff_size_eq_zero, List.isEmpty_iff_length_eq_zero]; rfl
           rw [e1, e2, e3] at hh
           exact hh
         -- the lists of candidates
         let left := es.filter fun e => !seen.contains e.2.2
         let left' := arr.toList.filter fun e => !seen.contains e.born
         have hleft : ER φ left left' := h2.filter (fun b => !seen.contains b)
         let old := left.filter fun e => decide (e.2.2 < since)
         let old' := left'.filter fun e => decide (e.born < since)
         have hold : ER φ old old' := hleft.filter (fun b => decide (b < since))
         let new := left.filter fun e => !decide (e.2.2 < since)
         let new' := left'.filter fun e => !decide (e.born < since)
         have hnew : ER φ new new' := hleft.filter (fun b => !decide (b < since))
         let cand : List (Option MapEntry) := (if old'.isEmpty then [none] else []) ++ (old' ++ new').map some
         have hcand : ((if ((arr.filter fun e => !(⟨seen⟩ : Array Nat).contains e.born).filter (·.born < since)).isEmpty then #[none] else #[]) ++
             ((arr.filter fun e => !(⟨seen⟩ : Array Nat).contains e.born).filter (·.born < since) ++ (arr.filter fun e => !(⟨seen⟩ : Array Nat).contains e.born).filter (·.born ≥ since)).map some : Array (Option MapEntry)) = ⟨cand⟩ := by
           apply Array.ext'
           have fc : ∀ q, (⟨seen⟩ : Array Nat).contains q = seen.contains q := fun q => by simp
           have f1 : (arr.filter fun e => !(⟨seen⟩ : Array Nat).contains e.born).toList = left' := by rw [Array.toList_filter]; simp only [fc]; rfl
           have f2 : ((arr.filter fun e => !(⟨seen⟩ : Array Nat).contains e.born).filter (·.born < since)).toList = old' := by rw [Array.toList_filter, f1]
           have f3 : ((arr.filter fun e => !(⟨seen⟩ : Array Nat).contains e.born).filter (·.born ≥ since)).toList = new' := by
             rw [Array.toList_filter, f1]
             show left'.filter (fun e => decide (e.born ≥ since)) = left'.filter fun e => !decide (e.born < since)
             congr 1; funext e
             by_cases hq : e.born < since <;> simp [hq] <;> omega
           have f4 : ((arr.filter fun e => !(⟨seen⟩ : Array Nat).contains e.born).filter (·.born < since)).isEmpty = old'.isEmpty := by
             rw [Bool.eq_iff_iff, Array.isEmpty_iff_size_eq_zero, List.isEmpty_iff_length_eq_zero, ← f2, Array.length_toList]
           rw [Array.toList_append, Array.toList_map, Array.toList_append, f2, f3, f4]
           show _ = (if old'.isEmpty then [none] else []) ++ (old' ++ new').map some
           cases old'.isEmpty <;> rfl
         have hne : 0 < cand.length := by
           show 0 < ((if old'.isEmpty then [none] else []) ++ (old' ++ new').map some).length
           cases hq : old' with
           | nil => simp
           | cons x l => simp
         have hlen : cand.length = (nextOuts h b bm since seen cl es).length := by
           show ((if old'.isEmpty then [none] else []) ++ (old' ++ new').map some).length = ((if old.isEmpty then [(Value.tuple #[.bool false], h)] else []) ++ (old ++ new).map _).length
           have e1 : old'.isEmpty = old.isEmpty := by
             rw [Bool.eq_iff_iff, List.isEmpty_iff_length_eq_zero, List.isEmpty_iff_length_eq_zero, hold.length]
           rw [e1]
           simp only [List.length_append, List.length_map, hold.length, hnew.length]
           cases old.isEmpty <;> rfl
         -- which one is taken
         have hch : ∃ j w1, (choose (.mapNext cand.length)).run P w = .ok j w1 ∧ j < cand.length ∧ (w1 = w ∨ w1 = w.drew) := by
           rw [run_choose_drew]
           by_cases hf : (Question.mapNext cand.length).forced = true
           · rw [if_pos hf]; exact ⟨0, w, rfl, hne, .inl rfl⟩
           · rw [if_neg hf]; exact ⟨_, w.drew, rfl, Nat.mod_lt _ hne, .inr rfl⟩
         obtain ⟨j, w1, hj1, hj2, hw1⟩ := hch
         have r1 : R w0 φ h w1 := by rcases hw1 with rfl | rfl; exact r; exact r.drew
         have hgw : w1.heap[i.c]? = some (.mapIter (some im.c) since ⟨seen⟩ st) := by rcases hw1 with rfl | rfl <;> exact hw
         have hrun : ∀ (c : Option MapEntry), cand[j]? = some c → (Instr.next (.pointer (some ⟨i.c, 0 + 0, none⟩)) false ty).run P w = (match c with
             | some e => .ok (.tuple #[.bool true, e.key, e.val]) (putW w1 i.c (.mapIter (some im.c) since ⟨seen ++ [e.born]⟩ cl))
             | none => .ok (.tuple #[.bool false]) w1) := by
           intro c hc
           unfold Instr.next
           simp only [Sem.run_bind, hget, Result.andThen_ok, h1]
           rw [if_neg hns']
           simp only [Sem.run_bind]
           rw [hcand]
           simp only [List.size_toArray, hj1, Result.andThen_ok, List.getElem?_toArray, hc]
           cases c with
           | none => rfl
           | some e =>
             have hset : (setObj i.c (.mapIter (some im.c) since ((⟨seen⟩ : Array Nat).push e.born) cl)).run P w1 = .ok () (putW w1 i.c (.mapIter (some im.c) since ⟨seen ++ [e.born]⟩ cl)) := by
              have : ((⟨seen⟩ : Array Nat).push e.born) = ⟨seen ++ [e.born]⟩ := by apply Array.ext'; simp
              rw [this]
              simp [setObj, Sem.run, hgw, putW]
             simp only [Sem.run_bind, hset, Result.andThen_ok, Sem.run_pure]
         by_cases h0 : old'.isEmpty = true ∧ j = 0
         · obtain ⟨ho0, rfl⟩ := h0
           have hc0 : cand[0]? = some none := by
             show ((if old'.isEmpty then [none] else []) ++ (old' ++ new').map some)[0]? = some none
             rw [ho0]; rfl
           have e1 : old.isEmpty = true := by
             rw [List.isEmpty_iff_length_eq_zero, hold.length]; exact List.isEmpty_iff_length_eq_zero.1 ho0
           refine ⟨.tuple #[.bool false], h, ?_, ⟨.tuple #[.bool false], w1, φ, hrun none hc0, .refl φ h, r1, .tuple' (.cons (.bool _) .nil)⟩⟩
           show _ ∈ (if old.isEmpty then [(Value.tuple #[.bool false], h)] else []) ++ (old ++ new).map _
           rw [e1]; simp
         · have hcj : ∃ (q : Nat) (e' : MapEntry), cand[j]? = some (some e') ∧ (old' ++ new')[q]? = some e' := by
             have hcd : cand = (if old'.isEmpty then [none] else []) ++ (old' ++ new').map some := rfl
             cases hq : old'.isEmpty with
             | true =>
              rw [hq] at hcd
              have hj0 : j ≠ 0 := fun e => h0 ⟨hq, e⟩
              have hlt : j - 1 < (old' ++ new').length := by rw [hcd] at hj2; simp only [if_true, List.length_append, List.length_cons, List.length_nil, List.length_map] at hj2 ⊢; omega
              refine ⟨j - 1, (old' ++ new')[j - 1], ?_, List.getElem?_eq_getElem hlt⟩
              rw [hcd, if_pos rfl, List.getElem?_append_right (by simp; omega)]
              simp only [List.length_cons, List.length_nil, Nat.zero_add, List.getElem?_map, List.getElem?_eq_getElem hlt, Option.map_some]
             | false =>
              rw [hq] at hcd
              have hlt : j < (old' ++ new').length := by rw [hcd] at hj2; simpa using hj2
              refine ⟨j, (old' ++ new')[j], ?_, List.getElem?_eq_getElem hlt⟩
              rw [hcd]
              simp only [Bool.false_eq_true, if_false, List.nil_append, List.getElem?_map, List.getElem?_eq_getElem hlt, Option.map_some]
           obtain ⟨q, e', hc, hq⟩ := hcj
           obtain ⟨e, he, hk, hv, hb⟩ := (hold.append hnew).get' hq
           obtain ⟨p1, p2⟩ := r1.iterPut (since2 := since) (seen2 := seen ++ [e.2.2]) (st2 := cl) hi ho (.map im him)
           refine ⟨.tuple #[.bool true, e.1, e.2.1], { h with m := h.m.set b (some (.iter (some bm) since (seen ++ [e.2.2]) cl)) }, ?_, ⟨_, _, φ, hrun (some e') hc, p2, ?_, .tuple' (.cons (.bool _) (.cons hk (.cons hv .nil)))⟩⟩
           · show _ ∈ (if old.isEmpty then [(Value.tuple #[.bool false], h)] else []) ++ (old ++ new).map _
             exact List.mem_append_right _ (List.mem_map.2 ⟨e, List.mem_of_getElem? he, rfl⟩)
           · rw [hb]; exact p1
     · cases hs
   · cases hs
 · cases hs
end
end Go.X
