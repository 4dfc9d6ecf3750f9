/- The closed evaluator, part 4: addresses, slices, append, copy. -/
import Derived.Test.YtdaedcoolcicoaaX3
namespace Go.X
noncomputable section
open Go Go.RowKit
variable {w0 w w' : World} {φ φ' : Phi} {h h' : AH} {P : Program}

def aField (P : Program) (s : TypeId) (a : Addr) (f : Nat) : Option Value := match P.underlying s with
  | some (.struct fs) => match fs[f]? with
    | some fd => match szOf P fd.type, a.spot with
      | some (_ + 1), none => some (.pointer (some ⟨a.block, a.off + fd.offset, none⟩))
      | _, _ => none
    | none => none
  | _ => none
theorem sim_field (r : R w0 φ h w) {s : TypeId} {a : Addr} {f : Nat} {v p : Value} (hs : aField P s a f = some v) (hp : VR φ (.pointer (some a)) p) : SimV w0 P φ h w (Instr.fieldAt s p f) v h := by
  obtain ⟨i, hi, _, rfl⟩ := hp.ptr_inv
  unfold aField at hs
  split at hs
  · rename_i fs hu
    split at hs
    · rename_i fd hf
      split at hs
      · rename_i k hk _
        cases hs
        refine .here r (v' := .pointer (some ⟨i.c, a.off + i.d + fd.offset, none⟩)) ?_ ?_
        · simp [Instr.fieldAt, run_underlying hu, hf, Instr.sureAddr, fieldPlace, rSz hk, addEq]
        · rw [show a.off + i.d + fd.offset = a.off + fd.offset + i.d by omega]
          exact .ptr (a := ⟨a.block, a.off + fd.offset, none⟩) i hi rfl
      · cases hs
    · cases hs
  · cases hs

theorem VR.sl_inv {a : Addr} {l c : Nat} {v : Value} (hv : VR φ (.slice (some a) l c) v) (h0 : c ≠ 0) (ho : c ≠ open_) :
    ∃ i, φ a.block = some i ∧ a.spot = none ∧ v = .slice (some ⟨i.c, a.off + i.d, none⟩) l c := by
  cases hv with
  | slice0 => exact (h0 rfl).elim
  | slice i hi hs hc => exact ⟨i, hi, hs, rfl⟩
  | opens => exact (ho rfl).elim
theorem VR.sl_inv0 {a : Addr} {l : Nat} {v : Value} (hv : VR φ (.slice (some a) l 0) v) : ∃ a', v = .slice (some a') l 0 := by
  cases hv with
  | slice0 => exact ⟨_, rfl⟩
  | slice i hi hs hc => exact ⟨_, rfl⟩
theorem VR.sl_invO {a : Addr} {l : Nat} {v : Value} (hv : VR φ (.slice (some a) l open_) v) :
    ∃ a' c' i, v = .slice (some a') l c' ∧ φ a.block = some i ∧ a.spot = none ∧ 0 < i.e ∧ l ≤ c' ∧ i.n ≤ a.off + c' * i.e ∧ a.off + i.d + c' * i.e ≤ i.sz ∧ (0 < c' → a' = ⟨i.c, a.off + i.d, none⟩) := by
  cases hv with
  | slice i hi hs hc => exact (hc rfl).elim
  | opens i hi hs ho hl hn hz ha => exact ⟨_, _, i, rfl, hi, hs, ho, hl, hn, hz, ha⟩
/-- A slice with elements: where they lie. -/
theorem VR.sl_some {a : Addr} {l c : Nat} {v : Value} (hv : VR φ (.slice (some a) l c) v) (h0 : c ≠ 0) (hl : l ≠ 0) :
    ∃ i c', φ a.block = some i ∧ a.spot = none ∧ v = .slice (some ⟨i.c, a.off + i.d, none⟩) l c' := by
  by_cases ho : c = open_
  · subst ho
    obtain ⟨a', c', i, rfl, hi, hs, _, hlc, _, _, ha⟩ := hv.sl_invO
    exact ⟨i, c', hi, hs, by rw [ha (by omega)]⟩
  · obtain ⟨i, hi, hs, rfl⟩ := hv.sl_inv h0 ho
    exact ⟨i, c, hi, hs, rfl⟩

/-! Elements' addresses. -/
def aIndex (P : Program) (T : TypeId) (x i : Value) : Option Value := match i with
  | .int _ j => match P.underlying T, x with
    | some (.slice el), .slice (some a) l c => if c ≠ 0 ∧ 0 ≤ j ∧ j < l then (match szOf P el with
        | some k => some (.pointer (some ⟨a.block, a.off + j.toNat * k, none⟩))
        | none => none) else none
    | some (.array l el), .pointer (some a) => if 0 ≤ j ∧ j < l then (match szOf P el with
        | some k => some (.pointer (some ⟨a.block, a.off + j.toNat * k, none⟩))
        | none => none) else none
    | _, _ => none
  | _ => none
theorem VR.int_inv {k : IntKind} {n : Int} {v : Value} (hv : VR φ (.int k n) v) : v = .int k n := by cases hv; rfl
theorem VR.bool_inv {b : Bool} {v : Value} (hv : VR φ (.bool b) v) : v = .bool b := by cases hv; rfl
theorem sim_index (r : R w0 φ h w) {T : TypeId} {x i v x' i' : Value} (hs : aIndex P T x i = some v) (hx : VR φ x x') (hi : VR φ i i') : SimV w0 P φ h w (Instr.indexAt T x' i') v h := by
  unfold aIndex at hs
  split at hs
  · rename_i k j
    obtain rfl := hi.int_inv
    split at hs
    · rename_i el a l c hu
      split at hs
      · rename_i hc
        split at hs
        · rename_i k hk
          cases hs
          obtain ⟨i, c', hi, hsp, rfl⟩ := hx.sl_some hc.1 (by omega)
          refine .here r (v' := .pointer (some ⟨i.c, a.off + i.d + j.toNat * k, none⟩)) ?_ ?_
          · simp [Instr.indexAt, asIntOf, run_underlying hu, hc.2.1, hc.2.2, rSz hk, addEq]
          · rw [show a.off + i.d + j.toNat * k = a.off + j.toNat * k + i.d by omega]
            exact .ptr (a := ⟨a.block, a.off + j.toNat * k, none⟩) i hi rfl
        · cases hs
      · cases hs
    · rename_i l el a hu
      split at hs
      · rename_i hc
        split at hs
        · rename_i k hk
          cases hs
          obtain ⟨i, hi, hsp, rfl⟩ := hx.ptr_inv
          refine .here r (v' := .pointer (some ⟨i.c, a.off + i.d + j.toNat * k, none⟩)) ?_ ?_
          · simp [Instr.indexAt, asIntOf, run_underlying hu, hc.1, hc.2, rSz hk, addEq, Instr.sureAddr]
          · rw [show a.off + i.d + j.toNat * k = a.off + j.toNat * k + i.d by omega]
            exact .ptr (a := ⟨a.block, a.off + j.toNat * k, none⟩) i hi rfl
        · cases hs
      · cases hs
    · cases hs
  · cases hs

/-! Slices of slices. -/
def bnd (x : Option Value) (d : Nat) : Option Nat := match x with
  | none => some d
  | some (.int _ j) => if 0 ≤ j then some j.toNat else none
  | _ => none
theorem run_bounds {isS : Bool} {len cap l hh m : Nat} {lo hi mx : Option Value} (hm : bnd mx cap = some m) (hh' : bnd hi len = some hh) (hl : bnd lo 0 = some l) (h1 : l ≤ hh) (h2 : hh ≤ m) (h3 : m ≤ cap)
    (hmh : mx.isSome = true → hi.isSome = true) : (Instr.sliceBounds isS len cap lo hi mx).run P w = .ok (l, hh, m) w := by
  have key : ∀ {x : Value} {d r y : Nat} {c : BoundsCode}, bnd (some x) d = some r → r ≤ y → (Instr.sliceBound x y c).run P w = .ok r w := by
    intro x d r y c hb hy
    unfold bnd at hb
    split at hb
    · rename_i h; cases h
    · rename_i k j h; cases h
      split at hb
      · cases hb
        have : j ≤ (y : Int) := by omega
        simp [Instr.sliceBound, asIntOf, *]
      · cases hb
    · cases hb
  unfold Instr.sliceBounds
  cases mx with
  | none =>
    simp only [bnd] at hm; cases hm
    cases hi with
    | none =>
      simp only [bnd] at hh'; cases hh'
      cases lo with
      | none => simp only [bnd] at hl; cases hl; simp
      | some x => have := fun c => key (c := c) hl h1; simp [this]
    | some x =>
      have k1 := fun c => key (c := c) hh' h2
      cases lo with
      | none => simp only [bnd] at hl; cases hl; simp [k1]
      | some y => have := fun c => key (c := c) hl h1; simp [this, k1]
  | some z =>
    have k0 := fun c => key (c := c) hm h3
    cases hi with
    | none => simp at hmh
    | some x =>
      have k1 := fun c => key (c := c) hh' h2
      cases lo with
      | none => simp only [bnd] at hl; cases hl; simp [k1, k0]
      | some y => have := fun c => key (c := c) hl h1; simp [this, k1, k0]
def opOf (h : AH) (b : Nat) : Option (Nat × Nat) := match h.m.get b with
  | some (.cells _ n op false) => some (n, op)
  | _ => none
theorem R.opOf (r : R w0 φ h w) {b n op : Nat} {i : Im} (hi : φ b = some i) (ho : opOf h b = some (n, op)) : i.n = n ∧ i.e = op := by
  unfold X.opOf at ho
  split at ho
  · rename_i c n' op' hg
    cases ho
    obtain ⟨h1, h2, _⟩ := r.dom _ _ _ hi hg
    exact ⟨h1, h2⟩
  · cases ho
def mxOk (hi mx : Option Value) : Bool := !mx.isSome || hi.isSome
def aSlice (P : Program) (T : TypeId) (x : Value) (lo hi mx : Option Value) (h : AH) : Option Value :=
  if mxOk hi mx then match P.underlying T, x with
  | some (.slice el), .slice (some a) len cap => match szOf P el with
    | none => none
    | some k =>
      if cap = open_ then
        (match mx with
         | none => (match bnd hi len, bnd lo 0, opOf h a.block with
           | some hh, some l, some (n, op) => if l ≤ hh ∧ op = k ∧ (hh ≤ len ∨ a.off + hh * k ≤ n) then some (.slice (some ⟨a.block, a.off + l * k, none⟩) (hh - l) open_) else none
           | _, _, _ => none)
         | some _ => (match bnd mx 0, bnd hi len, bnd lo 0, opOf h a.block with
           | some m, some hh, some l, some (n, op) => if l ≤ hh ∧ hh ≤ m ∧ op = k ∧ a.off + m * k ≤ n ∧ m < open_ then
               some (.slice (some (if m = l then a else ⟨a.block, a.off + l * k, none⟩)) (hh - l) (m - l)) else none
           | _, _, _, _ => none))
      else (match bnd mx cap, bnd hi len, bnd lo 0 with
        | some m, some hh, some l => if l ≤ hh ∧ hh ≤ m ∧ m ≤ cap ∧ cap < open_ then some (.slice (some (if m = l then a else ⟨a.block, a.off + l * k, none⟩)) (hh - l) (m - l)) else none
        | _, _, _ => none)
  | some (.array n el), .pointer (some a) => (match szOf P el, bnd mx n, bnd hi n, bnd lo 0 with
    | some k, some m, some hh, some l => if l ≤ hh ∧ hh ≤ m ∧ m ≤ n ∧ n < open_ then some (.slice (some (if m = l then a else ⟨a.block, a.off + l * k, none⟩)) (hh - l) (m - l)) else none
    | _, _, _, _ => none)
  | _, _ => none
  else none
inductive OptR (φ : Phi) : Option Value → Option Value → Prop
  | none : OptR φ none none
  | some {v v' : Value} (h : VR φ v v') : OptR φ (some v) (some v')
theorem bnd_same {x x' : Option Value} {d r : Nat} (hx : OptR φ x x') (hb : bnd x d = some r) : bnd x' d = some r := by
  cases hx with
  | none => exact hb
  | some h =>
    unfold bnd at hb
    split at hb
    · rename_i e; cases e
    · rename_i k j e; cases e; obtain rfl := h.int_inv; exact hb
    · cases hb
theorem OptR.isSome {x x' : Option Value} (hx : OptR φ x x') : x'.isSome = x.isSome := by cases hx <;> rfl
theorem sub_mul_le {c l k off n : Nat} (hl : l ≤ c) (hn : n ≤ off + c * k) : n ≤ off + l * k + (c - l) * k := by
  rw [Nat.sub_mul]
  have := Nat.mul_le_mul_right k hl
  omega
theorem sim_slice (r : R w0 φ h w) {T : TypeId} {x v x' : Value} {lo hi mx lo' hi' mx' : Option Value} (hs : aSlice P T x lo hi mx h = some v) (hx : VR φ x x') (hlo : OptR φ lo lo') (hhi : OptR φ hi hi') (hmx : OptR φ mx mx') :
    SimV w0 P φ h w (Instr.sliceAt T x' lo' hi' mx') v h := by
  unfold aSlice at hs
  split at hs
  · rename_i hmo
    have hmo' : mx'.isSome = true → hi'.isSome = true := by rw [hmx.isSome, hhi.isSome]; unfold mxOk at hmo; cases hmx' : mx.isSome <;> simp_all
    split at hs
    · rename_i el a len cap hu
      split at hs
      · cases hs
      · rename_i k hk
        split at hs
        · rename_i hcap
          subst hcap
          obtain ⟨a', c', i, rfl, hi0, hsp, he, hlc, hn, hz, ha⟩ := hx.sl_invO
          split at hs
          · cases hmx
            split at hs
            · rename_i hh l n op h1 h2 h3
              obtain ⟨hin, hie⟩ := r.opOf hi0 h3
              split at hs
              · rename_i hc
                cases hs
                obtain ⟨hc1, hc2, hc3⟩ := hc
                subst hc2
                have hhc : hh ≤ c' := by
                  rcases hc3 with hc3 | hc3
                  · omega
                  · rw [hin, hie] at hn
                    have : hh * op ≤ c' * op := by omega
                    exact Nat.le_of_mul_le_mul_right this (by rw [← hie]; exact he)
                have hb := run_bounds (P := P) (w := w) (isS := true) (cap := c') (m := c') (mx := none) rfl (bnd_same hhi h1) (bnd_same hlo h2) hc1 hhc (Nat.le_refl _) (by simp)
                refine .here r (v' := .slice (some (if c' = l then a' else a'.add (l * op))) (hh - l) (c' - l)) ?_ ?_
                · simp [Instr.sliceAt, Instr.slice, run_underlying hu, hb, rSz hk]
                  split <;> rfl
                · rw [← hie]
                  refine .opens (a := ⟨a.block, a.off + l * i.e, none⟩) i hi0 rfl he (by omega) (sub_mul_le (by omega) hn) ?_ (fun hp => ?_)
                  · show a.off + l * i.e + i.d + (c' - l) * i.e ≤ i.sz
                    rw [Nat.sub_mul]
                    have := Nat.mul_le_mul_right i.e (show l ≤ c' by omega)
                    omega
                  · rw [if_neg (by omega), ha (by omega), addEq]
                    congr 1
                    show a.off + i.d + l * i.e = a.off + l * i.e + i.d
                    omega
              · cases hs
            · cases hs
          · rename_i z
            split at hs
            · rename_i m hh l n op h0 h1 h2 h3
              obtain ⟨hin, hie⟩ := r.opOf hi0 h3
              split at hs
              · rename_i hc
                cases hs
                obtain ⟨hc1, hc2, hc3, hc4, hc5⟩ := hc
                subst hc3
                have hmc : m ≤ c' := by
                  rw [hin, hie] at hn
                  have : m * op ≤ c' * op := by omega
                  exact Nat.le_of_mul_le_mul_right this (by rw [← hie]; exact he)
                have h0' : bnd mx' c' = some m := by
                  cases hmx with
                  | some hv =>
                    unfold bnd at h0
                    split at h0
                    · rename_i e; cases e
                    · rename_i k j e; cases e; obtain rfl := hv.int_inv; exact h0
                    · cases h0
                have hb := run_bounds (P := P) (w := w) (isS := true) (cap := c') (m := m) h0' (bnd_same hhi h1) (bnd_same hlo h2) hc1 hc2 hmc hmo'
                refine .here r (v' := .slice (some (if m = l then a' else a'.add (l * op))) (hh - l) (m - l)) ?_ ?_
                · simp [Instr.sliceAt, Instr.slice, run_underlying hu, hb, rSz hk]
                  split <;> rfl
                · by_cases e : m = l
                  · subst e
                    rw [if_pos rfl, if_pos rfl, Nat.sub_self]; exact .slice0 _ _ _
                  · rw [if_neg e, if_neg e, ha (by omega), addEq, show a.off + i.d + l * op = a.off + l * op + i.d by omega]
                    exact .slice (a := ⟨a.block, a.off + l * op, none⟩) i hi0 rfl (by omega)
              · cases hs
            · cases hs
        · rename_i hcap
          split at hs
          · rename_i m hh l h0 h1 h2
            split at hs
            · rename_i hc
              cases hs
              obtain ⟨hc1, hc2, hc3, hc4⟩ := hc
              have hb := run_bounds (P := P) (w := w) (isS := true) (cap := cap) (m := m) (bnd_same hmx h0) (bnd_same hhi h1) (bnd_same hlo h2) hc1 hc2 hc3 hmo'
              by_cases h00 : cap = 0
              · subst h00
                obtain ⟨a', rfl⟩ := hx.sl_inv0
                have : m = l := by omega
                subst this
                refine .here r (v' := .slice (some a') (hh - m) (m - m)) ?_ ?_
                · simp [Instr.sliceAt, Instr.slice, run_underlying hu, hb, rSz hk]
                · rw [if_pos rfl, Nat.sub_self]; exact .slice0 _ _ _
              · obtain ⟨i, hi0, hsp, rfl⟩ := hx.sl_inv h00 hcap
                refine .here r (v' := .slice (some (if m = l then ⟨i.c, a.off + i.d, none⟩ else (⟨i.c, a.off + i.d, none⟩ : Addr).add (l * k))) (hh - l) (m - l)) ?_ ?_
                · simp [Instr.sliceAt, Instr.slice, run_underlying hu, hb, rSz hk]
                  split <;> rfl
                · by_cases e : m = l
                  · subst e
                    rw [if_pos rfl, if_pos rfl, Nat.sub_self]; exact .slice0 _ _ _
                  · rw [if_neg e, if_neg e, addEq, show a.off + i.d + l * k = a.off + l * k + i.d by omega]
                    exact .slice (a := ⟨a.block, a.off + l * k, none⟩) i hi0 rfl (by omega)
            · cases hs
          · cases hs
    · rename_i n el a hu
      split at hs
      · rename_i k m hh l hk h0 h1 h2
        split at hs
        · rename_i hc
          cases hs
          obtain ⟨hc1, hc2, hc3, hc4⟩ := hc
          obtain ⟨i, hi0, hsp, rfl⟩ := hx.ptr_inv
          have hb := run_bounds (P := P) (w := w) (isS := false) (cap := n) (m := m) (bnd_same hmx h0) (bnd_same hhi h1) (bnd_same hlo h2) hc1 hc2 hc3 hmo'
          refine .here r (v' := .slice (some (if m = l then ⟨i.c, a.off + i.d, none⟩ else (⟨i.c, a.off + i.d, none⟩ : Addr).add (l * k))) (hh - l) (m - l)) ?_ ?_
          · simp [Instr.sliceAt, Instr.sureAddr, run_underlying hu, hb, rSz hk]
          · by_cases e : m = l
            · subst e
              rw [if_pos rfl, if_pos rfl, Nat.sub_self]; exact .slice0 _ _ _
            · rw [if_neg e, if_neg e, addEq, show a.off + i.d + l * k = a.off + l * k + i.d by omega]
              exact .slice (a := ⟨a.block, a.off + l * k, none⟩) i hi0 rfl (by omega)
        · cases hs
      · cases hs
    · cases hs
  · cases hs
end
end Go.X
