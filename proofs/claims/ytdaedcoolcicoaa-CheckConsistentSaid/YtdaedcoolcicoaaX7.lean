/- The closed evaluator, part 7: append, copy, clear, len, cap as they are called. -/
import Derived.Test.YtdaedcoolcicoaaX6
namespace Go.X
noncomputable section
open Go Go.RowKit
variable {w0 w w' : World} {φ φ' : Phi} {h h' : AH} {P : Program}

def lenV : Value → Option Nat
  | .slice _ l _ => some l
  | .string s => some s.size
  | _ => none
theorem lenV_ok {x x' : Value} {n : Nat} (hs : lenV x = some n) (hx : VR φ x x') : (Builtin.lenOf x').run P w = .ok n w := by
  cases hx <;> simp [lenV] at hs <;> subst hs <;> simp [Builtin.lenOf]
/-- The first n elements of what is appended or copied. -/
def aFirst (k n : Nat) (x : Value) (h : AH) : Option (List Value) := match x with
  | .slice none _ _ => some []
  | .slice (some a) l c => if n = 0 then some [] else if c = 0 ∨ l = 0 then none else h.cells a 0 (n * k)
  | .string s => some ((s.data.toList.take n).map fun b => .int .u8 b.toNat)
  | _ => none
theorem first_ok (r : R w0 φ h w) {k n : Nat} {x x' : Value} {cs : List Value} (hs : aFirst k n x h = some cs) (hx : VR φ x x') :
    ∃ cs', (∀ w1 : World, w1.heap = w.heap → (Builtin.firstCells k n x').run P w1 = .ok ⟨cs'⟩ w1) ∧ LR φ cs cs' := by
  unfold aFirst at hs
  split at hs
  · cases hx
    cases hs
    exact ⟨[], fun w1 _ => by simp [Builtin.firstCells], .nil⟩
  · rename_i a l c
    split at hs
    · rename_i h0
      cases hs
      subst h0
      have : ∃ a' c', x' = .slice (some a') l c' := by cases hx <;> exact ⟨_, _, rfl⟩
      obtain ⟨a', c', rfl⟩ := this
      exact ⟨[], fun w1 _ => by simp [Builtin.firstCells, loadCells, loadCellsFrom], .nil⟩
    · split at hs
      · cases hs
      · rename_i hcl
        obtain ⟨i, c', hi, hsp, rfl⟩ := hx.sl_some (by omega) (by omega)
        obtain ⟨l', h1, h2, h3⟩ := r.cells hi _ _ hs
        refine ⟨l', fun w1 hw1 => ?_, h3⟩
        unfold Builtin.firstCells
        exact run_loadCells_at h1 (fun j v hj => by
          have := h2 j v hj
          rw [Nat.zero_add] at this
          simp only [World.cell?] at this ⊢
          rw [hw1]; exact this)
  · rename_i s
    cases hx
    cases hs
    refine ⟨_, fun w1 _ => ?_, LR.refl_bytes _⟩
    have e : (s.extract 0 n).data.toList = s.data.toList.take n := by
      rw [ByteArray.data_extract]
      simp
    show Sem.run P (Pure.pure (Array.map (fun b : UInt8 => Value.int IntKind.u8 b.toNat) (s.extract 0 n).data)) w1 = _
    simp only [Sem.run_pure]
    congr 1
    apply Array.ext'
    rw [Array.toList_map, e]
  · cases hs

inductive NewsK where
  | zeros | list | no
def newsK (P : Program) (T : TypeId) : NewsK := match P.underlying T with
  | some (.int _) => .zeros
  | some (.slice _) => .list
  | some .string => .list
  | _ => .no
def aNews (P : Program) (xT : TypeId) (k : Nat) (z x : Value) (h : AH) : Option (Nat × List Value) := match newsK P xT with
  | .zeros => (match x with
    | .int _ m => if 0 ≤ m ∧ m < 1099511627776 then some (m.toNat, zrep m.toNat (cellsL z)) else none
    | _ => none)
  | .list => (match lenV x with
    | some n => (match aFirst k n x h with | some l => some (n, l) | none => none)
    | none => none)
  | .no => none
def aAppend (P : Program) (sT xT : TypeId) (s x : Value) (h : AH) : Option (Value × AH) := match P.underlying sT with
  | some (.slice el) => (match szOf P el, byOf P el, zeroOf P el with
    | some k, some by_, some z => (match aNews P xT k z x h, lenV s with
      | some (n, new), some l => if (cellsL z).length = k ∧ new.length = n * k ∧ new.all (·.oneCell') = true ∧ (l + n) * (by_ + 1) < 1099511627776 then aAppendTo k s n new h else none
      | _, _ => none)
    | _, _, _ => none)
  | _ => none
theorem run_append_zeros {sT xT ty el : TypeId} {i : TypeInfo} {zero : Value} {base : Option Addr} {l c n : Nat} {kk : IntKind} {m : Int} (hu : P.underlying sT = some (.slice el)) (hi : P.info? el = some i)
    (hz : i.zero = some zero) (hk : newsK P xT = .zeros) (hsm : (l + n) * (i.bytes + 1) < 1099511627776) (hm0 : 0 ≤ m) (hm1 : m < 1099511627776) (hn : n = m.toNat) (hzl : (cellsL zero).length = i.size) :
    (Builtin.append_ #[sT, xT] ty #[.slice base l c, .int kk m]).run P w = (appTo i.size el i.bytes zero.cells base l c n (zrep n (cellsL zero))).run P w := by
  have h40 : l + n < 1099511627776 := by
    have : (l + n) * 1 ≤ (l + n) * (i.bytes + 1) := Nat.mul_le_mul_left _ (by omega)
    omega
  have hfit : c < l + n → ¬ (281474976710656 < Builtin.nextslicecap (l + n) c * i.bytes) := by
    intro hc
    have h3 : (l + n) * i.bytes ≤ 140737488355328 := by
      have : (l + n) * (i.bytes + 1) = (l + n) * i.bytes + (l + n) := by rw [Nat.mul_add, Nat.mul_one]
      omega
    have := growslice_fits hc h3
    omega
  have hmax : (IntKind.i64.max : Int) = 9223372036854775807 := by decide
  have hbig : ¬ (9223372036854775807 < (l : Int) + max m 0) := by omega
  have hdx : ∃ k2, P.underlying xT = some (.int k2) := by
    unfold newsK at hk
    split at hk <;> first | exact ⟨_, ‹_›⟩ | cases hk
  obtain ⟨k2, hxu⟩ := hdx
  have hw := wrap64 hm0 hm1
  have hmb : ¬ (281474976710656 < m * (i.bytes : Int)) := by
    have h5 : n * (i.bytes + 1) ≤ (l + n) * (i.bytes + 1) := Nat.mul_le_mul_right _ (by omega)
    have h7 : n * (i.bytes + 1) = n * i.bytes + n := by rw [Nat.mul_add, Nat.mul_one]
    have h8 : ((n * i.bytes : Nat) : Int) = m * i.bytes := by rw [hn]; push_cast; rw [Int.toNat_of_nonneg hm0]
    omega
  have hmn : ¬ m < 0 := by omega
  subst hn
  unfold Builtin.append_ appTo
  by_cases hroom : l + m.toNat ≤ c
  · by_cases hz0 : m.toNat * i.size = 0
    · have he : zrep m.toNat (cellsL zero) = [] := List.eq_nil_of_length_eq_zero (by rw [zrep_len, hzl]; exact hz0)
      simp [run_underlying hu, run_underlying hxu, sizeOf, typeInfo, zeroValue, hi, hz, asInt, asIntOf, hw, hmn, hmb, hroom, hz0, he]
      cases base <;> rfl
    · simp [run_underlying hu, run_underlying hxu, sizeOf, typeInfo, zeroValue, hi, hz, asInt, asIntOf, hw, hmn, hmb, hroom, hz0, zcells]
      cases base <;> rfl
  · have hf := hfit (by omega)
    by_cases hz0 : m.toNat * i.size = 0
    · have he : zrep m.toNat (cellsL zero) = [] := List.eq_nil_of_length_eq_zero (by rw [zrep_len, hzl]; exact hz0)
      simp [run_underlying hu, run_underlying hxu, sizeOf, typeInfo, zeroValue, hi, hz, asInt, asIntOf, hw, hmn, hmb, hroom, hz0, he, hmax, hbig, hf, Question.forced]
    · simp [run_underlying hu, run_underlying hxu, sizeOf, typeInfo, zeroValue, hi, hz, asInt, asIntOf, hw, hmn, hmb, hroom, hz0, zcells, hmax, hbig, hf, Question.forced]
theorem load_world {a : Addr} {v : Value} {w1 : World} (hr : (load a).run P w = .ok v w1) : w1 = w := by
  rw [run_load] at hr
  split at hr
  · cases hr; rfl
  · split at hr
    · cases hr; rfl
    · cases hr
theorem loadCellsFrom_world {a : Addr} : ∀ (n i : Nat) (acc : Array Value) {l : Array Value} {w w1 : World}, (loadCellsFrom a i n acc).run P w = .ok l w1 → w1 = w
  | 0, i, acc, l, w, w1, hr => by simp [loadCellsFrom] at hr; exact hr.2.symm
  | n + 1, i, acc, l, w, w1, hr => by
    simp only [loadCellsFrom, Sem.run_bind] at hr
    cases hq : (load (a.add i)).run P w with
    | ok v w2 =>
      rw [hq] at hr
      have := load_world hq
      subst this
      exact loadCellsFrom_world n (i + 1) _ hr
    | halt x w2 => rw [hq] at hr; cases hr
theorem firstCells_world {k n : Nat} {x : Value} {l : Array Value} {w1 : World} (hr : (Builtin.firstCells k n x).run P w = .ok l w1) : w1 = w := by
  unfold Builtin.firstCells at hr
  split at hr
  · exact loadCellsFrom_world _ _ _ hr
  · simp at hr; exact hr.2.symm
  · simp at hr; exact hr.2.symm
  · simp at hr
theorem run_append_list {sT xT ty el : TypeId} {i : TypeInfo} {zero x' : Value} {base : Option Addr} {l c n : Nat} {new' : List Value} (hu : P.underlying sT = some (.slice el)) (hi : P.info? el = some i)
    (hz : i.zero = some zero) (hk : newsK P xT = .list) (hsm : (l + n) * (i.bytes + 1) < 1099511627776) (hlen : (Builtin.lenOf x').run P w = .ok n w)
    (hfirst : ∀ w1 : World, w1.heap = w.heap → (Builtin.firstCells i.size n x').run P w1 = .ok ⟨new'⟩ w1) :
    (Builtin.append_ #[sT, xT] ty #[.slice base l c, x']).run P w = (appTo i.size el i.bytes zero.cells base l c n new').run P w := by
  have h40 : l + n < 1099511627776 := by
    have : (l + n) * 1 ≤ (l + n) * (i.bytes + 1) := Nat.mul_le_mul_left _ (by omega)
    omega
  have hbig : ¬ (9223372036854775807 < (l : Int) + (n : Int)) := by omega
  have hfit : c < l + n → ¬ (281474976710656 < Builtin.nextslicecap (l + n) c * i.bytes) := by
    intro hc
    have h3 : (l + n) * i.bytes ≤ 140737488355328 := by
      have : (l + n) * (i.bytes + 1) = (l + n) * i.bytes + (l + n) := by rw [Nat.mul_add, Nat.mul_one]
      omega
    have := growslice_fits hc h3
    omega
  have hmax : (IntKind.i64.max : Int) = 9223372036854775807 := by decide
  have hdx : (∃ e, P.underlying xT = some (.slice e)) ∨ P.underlying xT = some .string := by
    unfold newsK at hk
    split at hk <;> first | exact .inl ⟨_, ‹_›⟩ | exact .inr ‹_› | cases hk
  have h1 := hfirst w rfl
  have h2 := hfirst w.drew rfl
  unfold Builtin.append_ appTo
  by_cases hroom : l + n ≤ c
  · rcases hdx with ⟨e, hxu⟩ | hxu
    · simp [run_underlying hu, run_underlying hxu, sizeOf, typeInfo, hi, hlen, hroom, h1]
      cases base <;> rfl
    · simp [run_underlying hu, run_underlying hxu, sizeOf, typeInfo, hi, hlen, hroom, h1]
      cases base <;> rfl
  · have hf := hfit (by omega)
    rcases hdx with ⟨e, hxu⟩ | hxu
    · simp [run_underlying hu, run_underlying hxu, sizeOf, typeInfo, zeroValue, hi, hz, hlen, hroom, hmax, hbig, hf, Question.forced]
      cases hq : (Builtin.firstCells i.size l (Value.slice base l c)).run P w.drew with
      | ok old w2 => rw [firstCells_world hq]; simp [h2]
      | halt x w2 => simp
    · simp [run_underlying hu, run_underlying hxu, sizeOf, typeInfo, zeroValue, hi, hz, hlen, hroom, hmax, hbig, hf, Question.forced]
      cases hq : (Builtin.firstCells i.size l (Value.slice base l c)).run P w.drew with
      | ok old w2 => rw [firstCells_world hq]; simp [h2]
      | halt x w2 => simp
theorem sim_append (r : R w0 φ h w) {sT xT ty : TypeId} {s x s' x' v : Value} (hs : aAppend P sT xT s x h = some (v, h')) (hv : VR φ s s') (hx : VR φ x x') : SimV w0 P φ h w (Builtin.append_ #[sT, xT] ty #[s', x']) v h' := by
  unfold aAppend at hs
  split at hs
  · rename_i el hu
    split at hs
    · rename_i k by_ z hk hb hz
      split at hs
      · rename_i n new l hnew hl
        split at hs
        · rename_i hc
          obtain ⟨hc1, hc2, hc3, hc4⟩ := hc
          obtain ⟨i, hi, hisz⟩ := rI' hk
          have hib : i.bytes = by_ := by unfold byOf at hb; rw [hi] at hb; simpa using hb
          have hz' : i.zero = some z := by
            unfold zeroOf at hz
            rw [hi] at hz
            dsimp only at hz
            split at hz
            · split at hz
              · cases hz; assumption
              · cases hz
            · cases hz
          have hzp := (rZero hz w).2
          subst hib
          subst hisz
          have fin : ∀ {new' : List Value}, LR φ new new' → (∀ base c, (Builtin.append_ #[sT, xT] ty #[.slice base l c, x']).run P w = (appTo i.size el i.bytes z.cells base l c n new').run P w) → SimV w0 P φ h w (Builtin.append_ #[sT, xT] ty #[s', x']) v h' := by
            intro new' hn he
            obtain ⟨base, l1, c, rfl, ⟨b0, c0, e0⟩, v', w', φ', h1, h2, h3, h4⟩ := sim_appTo (P := P) (el := el) (by_ := i.bytes) r hc1 hc3 hs hv hn hc2
            have : l1 = l := by rw [e0] at hl; simpa [lenV] using hl
            subst this
            exact ⟨v', w', φ', (he base c).trans h1, h2, h3, h4⟩
          unfold aNews at hnew
          split at hnew
          · rename_i hkk
            split at hnew
            · rename_i kk m
              split at hnew
              · rename_i hm
                cases hnew
                obtain rfl := hx.int_inv
                exact fin (zrep_rel (pfv_refl φ hzp).cells _) (fun base c => run_append_zeros hu hi hz' hkk hc4 hm.1 hm.2 rfl hc1)
              · cases hnew
            · cases hnew
          · rename_i hkk
            split at hnew
            · rename_i n' hn'
              split at hnew
              · rename_i l' hl'
                cases hnew
                obtain ⟨cs', h1, h2⟩ := first_ok (P := P) r hl' hx
                exact fin h2 (fun base c => run_append_list hu hi hz' hkk hc4 (lenV_ok hn' hx) h1)
              · cases hnew
            · cases hnew
          · cases hnew
        · cases hs
      · cases hs
    · cases hs
  · cases hs

/-! copy. -/
def aCopy (P : Program) (dT : TypeId) (d x : Value) (h : AH) : Option (Value × AH) := match P.underlying dT, d, lenV x with
  | some (.slice el), .slice base dl dc, some n => (match szOf P el, aFirst ((szOf P el).getD 0) (min n dl) x h with
    | some _, some cs => if min n dl = 0 ∧ cs = [] then some (.int .i64 ((min n dl : Nat) : Int), h) else (match base with
      | some a => if dc = 0 ∨ dl = 0 then none else (match h.setcs a 0 cs with
        | some h' => some (.int .i64 ((min n dl : Nat) : Int), h')
        | none => none)
      | none => none)
    | _, _ => none)
  | _, _, _ => none
theorem sim_copy (r : R w0 φ h w) {dT xT ty : TypeId} {d x d' x' v : Value} (hs : aCopy P dT d x h = some (v, h')) (hd : VR φ d d') (hx : VR φ x x') : SimV w0 P φ h w (Builtin.copy_ #[dT, xT] ty #[d', x']) v h' := by
  unfold aCopy at hs
  split at hs
  · rename_i el base dl dc n hu hn
    split at hs
    · rename_i k cs hk hcs
      rw [hk] at hcs
      simp only [Option.getD_some] at hcs
      have hlen := lenV_ok (P := P) (w := w) hn hx
      obtain ⟨cs', h1, h2⟩ := first_ok (P := P) r hcs hx
      have h1' := h1 w rfl
      have hmin : Nat.min n dl = min n dl := rfl
      split at hs
      · rename_i h0
        cases hs
        obtain ⟨h0, hnil⟩ := h0
        subst hnil
        cases h2
        have : ∃ b c, d' = .slice b dl c := by cases hd <;> exact ⟨_, _, rfl⟩
        obtain ⟨b, c, rfl⟩ := this
        refine .here r (v' := .int .i64 (min n dl : Nat)) ?_ (.int _ _)
        unfold Builtin.copy_
        simp only [List.getElem?_toArray, List.getElem?_cons_zero, List.getElem?_cons_succ, run_underlying hu, Sem.run_bind, Result.andThen_ok, hlen, hmin, rSz hk, h1']
        cases b <;> simp [storeCells, goInt]
      · split at hs
        · rename_i a
          split at hs
          · cases hs
          · rename_i hdd
            split at hs
            · rename_i h3 hset
              cases hs
              obtain ⟨i, c', hi, hsp, rfl⟩ := hd.sl_some (by omega) (by omega)
              obtain ⟨w2, hw2, r2⟩ := R.setcs (P := P) hi _ _ r hset h2
              refine ⟨.int .i64 (min n dl : Nat), w2, φ, ?_, Nx.setcs hi (Nat.lt_of_lt_of_le (r.lt _ _ hi).2 r.nx) _ _ hset, r2, .int _ _⟩
              unfold Builtin.copy_
              simp only [List.getElem?_toArray, List.getElem?_cons_zero, List.getElem?_cons_succ, run_underlying hu, Sem.run_bind, Result.andThen_ok, hlen, hmin, rSz hk, h1']
              simp [hw2, goInt]
            · cases hs
        · cases hs
    · cases hs
  · cases hs
/-! len and cap. -/
def aLen (P : Program) (T : TypeId) (x : Value) (h : AH) : Option Value := match P.underlying T, x with
  | some .string, .string s => some (.int .i64 s.size)
  | some (.array n _), _ => some (.int .i64 n)
  | some (.slice _), .slice _ n _ => some (.int .i64 n)
  | some (.map _ _), .map none => some (.int .i64 0)
  | some (.map _ _), .map (some r) => (match h.m.get r with
    | some (.map es _ _) => some (.int .i64 es.length)
    | _ => none)
  | some (.pointer arr), _ => (match P.underlying arr with
    | some (.array n _) => some (.int .i64 n)
    | _ => none)
  | _, _ => none
theorem VR.map_inv {b : Nat} {v : Value} (hv : VR φ (.map (some b)) v) : ∃ i, φ b = some i ∧ v = .map (some i.c) := by
  cases hv with
  | map i hi => exact ⟨i, hi, rfl⟩
theorem R.map (r : R w0 φ h w) {b : Nat} {i : Im} {es : List (Value × Value × Nat)} {clock : Nat} {ro : Bool} (hi : φ b = some i) (ho : h.m.get b = some (.map es clock ro)) :
    ∃ arr, (getObj i.c).run P w = .ok (.map arr clock) w ∧ w.heap[i.c]? = some (.map arr clock) ∧ ER φ es arr.toList := by
  obtain ⟨arr, h1, h2⟩ := r.dom _ _ _ hi ho
  exact ⟨arr, by simp [getObj, Sem.run, h1], h1, h2⟩
theorem sim_len (r : R w0 φ h w) {T ty : TypeId} {x x' v : Value} (hs : aLen P T x h = some v) (hx : VR φ x x') : SimV w0 P φ h w (Builtin.len_ #[T] ty #[x']) v h := by
  unfold aLen at hs
  split at hs
  · rename_i s hu
    cases hs; cases hx
    exact .here r (v' := .int .i64 s.size) (by simp [Builtin.len_, run_underlying hu, goInt]) (.int _ _)
  · rename_i n el hu
    cases hs
    exact .here r (v' := .int .i64 n) (by simp [Builtin.len_, run_underlying hu, goInt]) (.int _ _)
  · rename_i el b n c hu
    cases hs
    have : ∃ b c, x' = .slice b n c := by cases hx <;> exact ⟨_, _, rfl⟩
    obtain ⟨b', c', rfl⟩ := this
    exact .here r (v' := .int .i64 n) (by simp [Builtin.len_, run_underlying hu, goInt]) (.int _ _)
  · rename_i k el hu
    cases hs; cases hx
    exact .here r (v' := .int .i64 0) (by simp [Builtin.len_, run_underlying hu, goInt]) (.int _ _)
  · rename_i k el b hu
    split at hs
    · rename_i es clock ro ho
      cases hs
      obtain ⟨i, hi, rfl⟩ := hx.map_inv
      obtain ⟨arr, h1, _, h2⟩ := r.map (P := P) hi ho
      refine .here r (v' := .int .i64 es.length) ?_ (.int _ _)
      have : arr.size = es.length := by rw [h2.length]; simp
      simp [Builtin.len_, run_underlying hu, goInt, h1, this]
    · cases hs
  · rename_i arr hu
    split at hs
    · rename_i n el hu2
      cases hs
      exact .here r (v' := .int .i64 n) (by simp [Builtin.len_, run_underlying hu, run_underlying hu2, goInt]) (.int _ _)
    · cases hs
  · cases hs
def aCap (P : Program) (T : TypeId) (x : Value) : Option Value := match P.underlying T, x with
  | some (.slice _), .slice _ _ n => if n = open_ then none else some (.int .i64 n)
  | _, _ => none
theorem sim_cap (r : R w0 φ h w) {T ty : TypeId} {x x' v : Value} (hs : aCap P T x = some v) (hx : VR φ x x') : SimV w0 P φ h w (Builtin.cap_ #[T] ty #[x']) v h := by
  unfold aCap at hs
  split at hs
  · rename_i el b l n hu
    split at hs
    · cases hs
    · rename_i hn
      cases hs
      have : ∃ b, x' = .slice b l n := by cases hx <;> first | exact ⟨_, rfl⟩ | exact (hn rfl).elim
      obtain ⟨b', rfl⟩ := this
      exact .here r (v' := .int .i64 n) (by simp [Builtin.cap_, run_underlying hu, goInt]) (.int _ _)
  · cases hs
def aClear (P : Program) (T : TypeId) (x : Value) (h : AH) : Option AH := match P.underlying T, x with
  | some (.slice el), .slice b n c => if n = 0 then some h else (match b, zeroOf P el with
    | some a, some z => if c = 0 then none else h.setcs a 0 (zrep n (cellsL z))
    | _, _ => none)
  | _, _ => none
theorem sim_clear (r : R w0 φ h w) {T ty : TypeId} {x x' : Value} (hs : aClear P T x h = some h') (hx : VR φ x x') : SimV w0 P φ h w (Builtin.clear_ #[T] ty #[x']) undef h' := by
  unfold aClear at hs
  split at hs
  · rename_i el b n c hu
    split at hs
    · rename_i h0
      cases hs
      subst h0
      have : ∃ b c, x' = .slice b 0 c := by cases hx <;> exact ⟨_, _, rfl⟩
      obtain ⟨b', c', rfl⟩ := this
      refine .here r (v' := undef) ?_ .undef
      cases b' <;> simp [Builtin.clear_, run_underlying hu, undef]
    · rename_i h0
      split at hs
      · rename_i a z hz
        split at hs
        · cases hs
        · rename_i hc
          obtain ⟨i, c', hi, hsp, rfl⟩ := hx.sl_some hc h0
          obtain ⟨hz1, hz2⟩ := rZero hz w
          obtain ⟨w2, hw2, r2⟩ := R.setcs (P := P) hi _ _ r hs (zrep_rel (pfv_refl φ hz2).cells n)
          refine ⟨undef, w2, φ, ?_, Nx.setcs hi (Nat.lt_of_lt_of_le (r.lt _ _ hi).2 r.nx) _ _ hs, r2, .undef⟩
          obtain ⟨m, rfl⟩ : ∃ m, n = m + 1 := ⟨n - 1, by omega⟩
          simp [Builtin.clear_, run_underlying hu, hz1, zcells, hw2, undef]
      · cases hs
  · cases hs
end
end Go.X
