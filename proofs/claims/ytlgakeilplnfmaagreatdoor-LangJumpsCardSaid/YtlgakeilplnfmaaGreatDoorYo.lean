/- Nodes, their laws and the walks of Check, Compile and the law. -/
import Derived.Test.YtlgakeilplnfmaaGreatDoorYn
import Derived.Test.YtlgakeilplnfmaaGreatDoorYj
namespace Go.Lj
noncomputable section
open Go Go.X Go.Arm
theorem insOp_rng {op o : Int} (h : insOp op = some o) : 1 ≤ o ∧ o ≤ 20 ∧ (o = 12 ∨ o = 14 → op = 3 ∨ op = 5) := by
 unfold insOp at h
 by_cases k20 : op = 20
 · rw [if_pos k20] at h; cases h; exact ⟨by decide, by decide, fun e => by rcases e with e | e <;> cases e⟩
 rw [if_neg k20] at h
 by_cases k21 : op = 21
 · rw [if_pos k21] at h; cases h; exact ⟨by decide, by decide, fun e => by rcases e with e | e <;> cases e⟩
 rw [if_neg k21] at h
 by_cases k22 : op = 22
 · rw [if_pos k22] at h; cases h; exact ⟨by decide, by decide, fun e => by rcases e with e | e <;> cases e⟩
 rw [if_neg k22] at h
 by_cases k23 : op = 23
 · rw [if_pos k23] at h; cases h; exact ⟨by decide, by decide, fun e => by rcases e with e | e <;> cases e⟩
 rw [if_neg k23] at h
 by_cases k25 : op = 25
 · rw [if_pos k25] at h; cases h; exact ⟨by decide, by decide, fun e => by rcases e with e | e <;> cases e⟩
 rw [if_neg k25] at h
 by_cases k26 : op = 26
 · rw [if_pos k26] at h; cases h; exact ⟨by decide, by decide, fun e => by rcases e with e | e <;> cases e⟩
 rw [if_neg k26] at h
 by_cases k1 : op = 1
 · rw [if_pos k1] at h; cases h; exact ⟨by decide, by decide, fun e => by rcases e with e | e <;> cases e⟩
 rw [if_neg k1] at h
 by_cases k2 : op = 2
 · rw [if_pos k2] at h; cases h; exact ⟨by decide, by decide, fun e => by rcases e with e | e <;> cases e⟩
 rw [if_neg k2] at h
 by_cases k3 : op = 3
 · rw [if_pos k3] at h; cases h; exact ⟨by decide, by decide, fun _ => by omega⟩
 rw [if_neg k3] at h
 by_cases k4 : op = 4
 · rw [if_pos k4] at h; cases h; exact ⟨by decide, by decide, fun e => by rcases e with e | e <;> cases e⟩
 rw [if_neg k4] at h
 by_cases k5 : op = 5
 · rw [if_pos k5] at h; cases h; exact ⟨by decide, by decide, fun _ => by omega⟩
 rw [if_neg k5] at h
 by_cases k6 : op = 6
 · rw [if_pos k6] at h; cases h; exact ⟨by decide, by decide, fun e => by rcases e with e | e <;> cases e⟩
 rw [if_neg k6] at h
 by_cases k7 : op = 7
 · rw [if_pos k7] at h; cases h; exact ⟨by decide, by decide, fun e => by rcases e with e | e <;> cases e⟩
 rw [if_neg k7] at h
 by_cases k8 : op = 8
 · rw [if_pos k8] at h; cases h; exact ⟨by decide, by decide, fun e => by rcases e with e | e <;> cases e⟩
 rw [if_neg k8] at h
 by_cases k9 : op = 9
 · rw [if_pos k9] at h; cases h; exact ⟨by decide, by decide, fun e => by rcases e with e | e <;> cases e⟩
 rw [if_neg k9] at h
 by_cases k10 : op = 10
 · rw [if_pos k10] at h; cases h; exact ⟨by decide, by decide, fun e => by rcases e with e | e <;> cases e⟩
 rw [if_neg k10] at h
 by_cases k11 : op = 11
 · rw [if_pos k11] at h; cases h; exact ⟨by decide, by decide, fun e => by rcases e with e | e <;> cases e⟩
 rw [if_neg k11] at h
 cases h
theorem anys_rng {l : List Nd} (h : l.length = 2) : 0 ≤ anys 0 l ∧ anys 0 l ≤ 3 := by
 match l, h with
 | [x, y], _ =>
  show 0 ≤ (if x.op = 24 then (2 ^ 0 : Int) else 0) + ((if y.op = 24 then (2 ^ (0 + 1) : Int) else 0) + 0) ∧ (if x.op = 24 then (2 ^ 0 : Int) else 0) + ((if y.op = 24 then (2 ^ (0 + 1) : Int) else 0) + 0) ≤ 3
  by_cases h1 : x.op = 24 <;> by_cases h2 : y.op = 24 <;> simp [h1, h2]
theorem ins1_ok {x : Nd} (h35 : x.op = 3 ∨ x.op = 5 → x.val = 0 ∧ x.a.length = 2) : okI (ins1 x) := by
 unfold okI ins1
 cases hi : insOp x.op with
 | none => exact ⟨(by decide : (1 : Int) ≤ 8), (by decide : (8 : Int) ≤ 21), fun e => by rcases e with e | e <;> cases e⟩
 | some o =>
  obtain ⟨h1, h2, h3⟩ := insOp_rng hi
  dsimp only
  refine ⟨h1, by omega, fun e => ?_⟩
  have ho := h3 e
  obtain ⟨v0, hl⟩ := h35 ho
  rw [if_pos ho, v0]
  have := anys_rng hl
  omega
mutual
theorem cg1_ok : ∀ (n : Nat) (x : Nd), wf1 x → ∀ i, i ∈ cg1 n x → okI i
 | n, .mk op val nm ot a b e, hw, i, hi => by
  obtain ⟨w1, w2, w3, w4⟩ := wf1_is hw
  have ha := cga_ok n a w2
  have hj : ∀ z, okI ⟨10, z, emp, emp⟩ := fun z => ⟨(by decide : (1 : Int) ≤ 10), (by decide : (10 : Int) ≤ 21), fun e => by rcases e with e | e <;> cases e⟩
  have hk : ∀ z, okI ⟨9, z, emp, emp⟩ := fun z => ⟨(by decide : (1 : Int) ≤ 9), (by decide : (9 : Int) ≤ 21), fun e => by rcases e with e | e <;> cases e⟩
  have hb := fun m => cgs_ok m b w3
  have he := fun m => cgs_ok m e w4
  unfold cg1 at hi
  dsimp only at hi
  split at hi
  · split at hi
    · split at hi
      · simp only [List.mem_append, List.mem_singleton] at hi
        rcases hi with ((hi | rfl) | hi) | rfl
        · exact ha i hi
        · exact hj _
        · exact hb _ i hi
        · exact hk _
      · simp only [List.mem_append, List.mem_singleton] at hi
        rcases hi with (hi | rfl) | hi
        · exact ha i hi
        · exact hj _
        · exact hb _ i hi
    · simp only [List.mem_append, List.mem_singleton] at hi
      rcases hi with (((hi | rfl) | hi) | rfl) | hi
      · exact ha i hi
      · exact hj _
      · exact hb _ i hi
      · exact hk _
      · exact he _ i hi
  · simp only [List.mem_append, List.mem_singleton] at hi
    rcases hi with hi | rfl
    · exact ha i hi
    · exact ins1_ok w1
theorem cgs_ok : ∀ (n : Nat) (l : List Nd), wfl l → ∀ i, i ∈ cgs n l → okI i
 | n, [], _, i, hi => by rw [cgs_nil] at hi; cases hi
 | n, x :: l, hw, i, hi => by
  unfold wfl at hw
  rw [cgs_cons] at hi
  rcases List.mem_append.1 hi with h | h
  · exact cg1_ok n x hw.1 i h
  · exact cgs_ok _ l hw.2 i h
theorem cga_ok : ∀ (n : Nat) (l : List Nd), wfl l → ∀ i, i ∈ cga n l → okI i
 | n, [], _, i, hi => by rw [cga_nil] at hi; cases hi
 | n, x :: l, hw, i, hi => by
  unfold wfl at hw
  rw [cga_cons] at hi
  split at hi
  · exact cga_ok n l hw.2 i hi
  · rcases List.mem_append.1 hi with h | h
    · exact cg1_ok n x hw.1 i h
    · exact cga_ok _ l hw.2 i h
end
variable {P : Program} {h h' : AH} {T el sT xT : TypeId} {v u vc vt vs w : Value} {td r : List Nat} {ht ts : List Int} {C : List Ins} {b0 : Nat}
structure Lw (b0 : Nat) (vc vt : Value) (C : List Ins) (h : AH) (ht : List Int) (td : List Nat) : Prop where
 g : Gr h 4 vc C.length (C.flatMap insc)
 hc : Cl h b0 (ht.map nv)
 t : To h vt td
 n1 : ∀ b, vb vc = some b → b < b0
 n2 : ∀ b, vb vt = some b → b0 < b
theorem Lw.ext (L : Lw b0 vc vt C h ht td) (s : Go.Arm.Sm Nix h h') : Lw b0 vc vt C h' ht td := ⟨L.g.ext s, L.hc.ext s, L.t.sm s (fun _ _ x => x), L.n1, L.n2⟩
theorem code_at {i : Nat} {x : Ins} (g : Gr h 4 vc C.length (C.flatMap insc)) (hT : P.underlying T = some (.slice el)) (hk : szOf P el = some 4) (hx : C[i]? = some x) :
  ∃ b o, aIndex P T vc (.int .i64 (i : Int)) = some (.pointer (some ⟨b, o, none⟩)) ∧ ∀ j, j < 4 → h.cell ⟨b, o + j, none⟩ = (insc x)[j]? := by
 obtain ⟨b, o, _, e, hc⟩ := g.sd.at hT hk (i := i) (List.getElem?_eq_some_iff.1 hx).1 .i64
 refine ⟨b, o, e, fun j hj => ?_⟩
 rw [hc j hj, flat_get insc (fun _ => rfl) C i j hj, hx]
 rfl
theorem Lw.hgt {i : Nat} {z : Int} (L : Lw b0 vc vt C h ht td) (hT : scalT P T = true) (hz : ht[i]? = some z) : aLoad P T ⟨b0, i, none⟩ h = some (nv z) := L.hc.ld hT (by rw [List.getElem?_map, hz]; rfl)
theorem Lw.setH {i : Nat} {z : Int} (L : Lw b0 vc vt C h ht td) (hz : szOf P T = some 1) (hi : i < ht.length) : ∃ h', aStore P T ⟨b0, i, none⟩ (nv z) h = some h' ∧ Lw b0 vc vt C h' (ht.set i z) td ∧ Go.Arm.Sm (fun b => b = b0) h h' ∧ h'.next = h.next := by
 obtain ⟨h', e, c, s, n⟩ := L.hc.store (P := P) (T := T) (o := i) (v := nv z) hz rfl rfl (by simpa using hi)
 refine ⟨h', e, ⟨L.g.sm s (fun b hb e => by have := L.n1 b hb; omega), by rw [List.map_set]; exact c, L.t.sm s (fun b hb e => by have := L.n2 b hb; omega), L.n1, L.n2⟩, s, n⟩
theorem Lw.cut {i : Nat} (L : Lw b0 vc vt C h ht (r ++ [i])) (hT : P.underlying T = some (.slice el)) (hk : szOf P el = some 1) : ∃ v', aSl P T vt none (some (nv ((r.length : Nat) : Int))) none h = some v' ∧ Lw b0 vc v' C h ht r := by
 obtain ⟨v', e, t, f⟩ := L.t.cut hT hk
 exact ⟨v', e, L.g, L.hc, t, L.n1, fun b hb => L.n2 b (f b hb)⟩
theorem Lw.push {by_ j : Nat} {z u : Value} (L : Lw b0 vc vt C h ht td) (hT : P.underlying sT = some (.slice el)) (hx : newsK P xT = .list) (hs : szOf P el = some 1) (hb : byOf P el = some by_) (hz : zeroOf P el = some z) (hzl : (cellsL z).length = 1)
   (hu : Sd h 1 u 1 [nk j]) (hlim : (td.length + 1) * (by_ + 1) < 1099511627776) (hu8 : isU8 P el = none := by kernel_rfl) :
   ∃ v' h', aAppend P sT xT vt u h = some (v', h') ∧ Lw b0 vc v' C h' ht (td ++ [j]) ∧ Go.Arm.Sm (fun b => vb vt = some b) h h' ∧ ∀ b, vb v' = some b → vb vt = some b ∨ h.next ≤ b := by
 obtain ⟨v', h', e, t, s, f⟩ := L.t.app hT hx hs hb hz hzl hu hlim hu8
 have hl := L.hc.lt
 refine ⟨v', h', e, ⟨L.g.sm s (fun b hb e => by have := L.n1 b hb; have := L.n2 b e; omega), L.hc.sm s (fun e => by have := L.n2 b0 e; omega), t, L.n1, fun b hb => ?_⟩, s, f⟩
 rcases f b hb with q | q
 · exact L.n2 b q
 · omega
theorem Lw.sm3 {S : Nat → Prop} (L : Lw b0 vc vt C h ht td) (s : Go.Arm.Sm S h h') (hS : ∀ b, S b → b0 < b ∧ vb vt ≠ some b) : Lw b0 vc vt C h' ht td :=
 ⟨L.g.sm s (fun b hb e => by have := L.n1 b hb; have := (hS b e).1; omega), L.hc.sm s (fun e => by have := (hS b0 e).1; omega), L.t.sm s (fun b hb e => (hS b e).2 hb), L.n1, L.n2⟩
structure Lx (b0 : Nat) (vc vt vs : Value) (C : List Ins) (h : AH) (ht : List Int) (td : List Nat) (ts : List Int) : Prop where
 w : Lw b0 vc vt C h ht td
 s : Sd h 1 vs ts.length (ts.map nv)
 n3 : ∀ b, vb vs = some b → b0 < b ∧ vb vt ≠ some b
theorem Lx.ext (L : Lx b0 vc vt vs C h ht td ts) (s : Go.Arm.Sm Nix h h') : Lx b0 vc vt vs C h' ht td ts := ⟨L.w.ext s, L.s.ext s, L.n3⟩
theorem Lx.setH {i : Nat} {z : Int} (L : Lx b0 vc vt vs C h ht td ts) (hz : szOf P T = some 1) (hi : i < ht.length) : ∃ h', aStore P T ⟨b0, i, none⟩ (nv z) h = some h' ∧ Lx b0 vc vt vs C h' (ht.set i z) td ts ∧ Go.Arm.Sm (fun b => b = b0) h h' ∧ h'.next = h.next := by
 obtain ⟨h', e, w, s, n⟩ := L.w.setH (P := P) (T := T) (z := z) hz hi
 exact ⟨h', e, ⟨w, L.s.sm s (fun b hb e => by have := (L.n3 b hb).1; omega), L.n3⟩, s, n⟩
theorem Lx.push {by_ j : Nat} {z u : Value} (L : Lx b0 vc vt vs C h ht td ts) (hT : P.underlying sT = some (.slice el)) (hx : newsK P xT = .list) (hs : szOf P el = some 1) (hb : byOf P el = some by_) (hz : zeroOf P el = some z) (hzl : (cellsL z).length = 1)
   (hu : Sd h 1 u 1 [nk j]) (hlim : (td.length + 1) * (by_ + 1) < 1099511627776) (hu8 : isU8 P el = none := by kernel_rfl) :
   ∃ v' h', aAppend P sT xT vt u h = some (v', h') ∧ Lx b0 vc v' vs C h' ht (td ++ [j]) ts ∧ Go.Arm.Sm (fun b => vb vt = some b) h h' := by
 obtain ⟨v', h', e, w, s, f⟩ := L.w.push hT hx hs hb hz hzl hu hlim hu8
 refine ⟨v', h', e, ⟨w, L.s.sm s (fun b hb => (L.n3 b hb).2), fun b hb => ⟨(L.n3 b hb).1, fun q => ?_⟩⟩, s⟩
 rcases f b q with q | q
 · exact (L.n3 b hb).2 q
 · have := L.s.lt hb; omega
theorem zrep_nv (n : Nat) : zrep n [nv 0] = (List.replicate n (0 : Int)).map nv := by
 induction n with
 | zero => rfl
 | succ n ih => rw [List.replicate_succ, List.map_cons, ← ih]; rfl
theorem cwr_small : ∀ z : Int, 0 ≤ z → z < 10000000 → cwr z = z := fun z h0 h1 => by
 show IntKind.i64.wrap z = z
 rw [IntKind.wrap_i64]; omega
theorem all_m1 {k : Nat} (hl : ht.length = k) (hv : ∀ i, i < k → ht[i]? = some (-1)) : ht = List.replicate k (-1) := by
 apply List.ext_getElem?
 intro i
 rw [List.getElem?_replicate]
 by_cases e : i < k
 · rw [if_pos e, hv i e]
 · rw [if_neg e, List.getElem?_eq_none (by omega)]
theorem dec_okC {n : Nat} (h0 : 0 < n) (h1 : n < 1000000) : Value.int .i64 (IntKind.i64.wrap ((n : Int) - 1)) = nv ((n - 1 : Nat) : Int) := by
 have : IntKind.i64.wrap ((n : Int) - 1) = ((n - 1 : Nat) : Int) := by rw [IntKind.wrap_i64]; omega
 rw [this]; rfl
theorem todo_last {l : List Nat} (h : 0 < l.length) : ∃ r i, l = r ++ [i] := by
 have hn : l ≠ [] := fun e => by rw [e] at h; cases h
 exact ⟨l.dropLast, l.getLast hn, (List.dropLast_concat_getLast hn).symm⟩
theorem unset_le : ∀ l : List Int, unset l ≤ l.length
 | [] => Nat.le_refl _
 | x :: l => by have := unset_le l; rw [unset, List.length_cons]; split <;> omega
theorem unset_0 {n : Nat} (h : 0 < n) : 2 * unset ((List.replicate n (-1)).set 0 0) + 1 ≤ 2 * n := by
 have hu := unset_set (l := List.replicate n (-1)) (k := 0) (v := 0) (w := -1) (by rw [List.getElem?_replicate, if_pos h]) (by decide) (by decide)
 have := unset_le (List.replicate n (-1))
 rw [List.length_replicate] at this
 omega
theorem succs_len (i : Nat) (x : Ins) : (succs i x).length ≤ 2 := by
 unfold succs sc1
 split <;> split <;> simp
end
end Go.Lj
namespace Go.Proofs.YtlgakeilplnfmaaGreatDoor
noncomputable section
open Go Go.X Go.Arm Go.Mt Go.Lj
theorem works_ok {h : AH} : Arm.Calls Tryz.prog 7 [] h (fun r => r = (.bool true, h)) := ⟨_, eRun_known (P := Tryz.prog) rfl h rfl, fun a ha => by cases List.mem_singleton.1 ha; rfl⟩
theorem dec_okT {n m : Nat} (h0 : n = m + 1) (h1 : n ≤ 10000000) : Value.int .i64 (IntKind.i64.wrap ((n : Int) - 1)) = nv ((n - 1 : Nat) : Int) := by
 have : IntKind.i64.wrap ((n : Int) - 1) = ((n - 1 : Nat) : Int) := by rw [IntKind.wrap_i64]; omega
 rw [this]; rfl
theorem jumps_ok {l : List Nd} {F : Nat → Prop} {h : AH} {v : Value} (H : NdS F h v l) (hF : ∀ b, F b → b < h.next) :
  Arm.Calls Tryz.prog 4 [v] h (fun r => r.1 = .bool true) := by
 refine Calls_W 205 Tryz.f4 ?_
 have T0 : Sm Nix h h := .refl
 refine W_sg 1 kr (L_nil (W_seq (W_seq ?_)))
 have h3 : (cnl cwr 300 0 l) > 300 ∨ ((cnl cwr 300 0 l) ≤ 300 ∧ chk l ≠ 0) ∨ ((cnl cwr 300 0 l) ≤ 300 ∧ chk l = 0) := by omega
 rcases h3 with q1 | ⟨q1, q2⟩ | ⟨q1, q2⟩
 ·
  refine W_rg 1 kr (L_c rfl rfl kr (count_ok (szl l + 1) l (by omega) (H.ext T0)) ?_)
  rintro v286 h286 ⟨e286, t286⟩
  try dsimp only at e286 t286
  subst e286
  have T286 := T0.ext t286
  have N286 := T286.nx
  have M286 := t286.nx
  refine L_i ((cnl cwr 300 0 l)) (300) (.bool true) rfl rfl kr kr rfl (by simp; omega) (L_g 5 kr (L_nil (W_cT kr (W_seq (W_region (L_c rfl rfl kr (works_ok) ?_))))))
  rintro vw hw ew
  cases ew
  refine L_g 1 kr (L_nil (W_ret ?_))
  refine rr ?_
  refine done_of (v := .bool true) (.inl rfl) kr ?_
  rfl
 ·
  refine W_rg 1 kr (L_c rfl rfl kr (count_ok (szl l + 1) l (by omega) (H.ext T0)) ?_)
  rintro v287 h287 ⟨e287, t287⟩
  try dsimp only at e287 t287
  subst e287
  have T287 := T0.ext t287
  have N287 := T287.nx
  have M287 := t287.nx
  refine L_i ((cnl cwr 300 0 l)) (300) (.bool false) rfl rfl kr kr rfl (by simp; omega) (L_g 2 kr ?_)
  have hck := check_ok (fun hd => few_of cwr_small hd (by omega)) (H.ext T287) (fun b hb => by have := hF b hb; omega)
  refine L_want kr (L_c rfl rfl kr (hck) ?_)
  rintro v288 h288 ⟨e288, t288⟩
  try dsimp only at e288 t288
  subst e288
  have T288 := T287.ext t288
  have N288 := T288.nx
  have M288 := t288.nx
  refine L_want kr (L_i ((chk l)) (0) (.bool true) rfl rfl kr kr rfl (by simp; omega) (L_g 1 kr (L_nil (W_cT kr (W_seq (W_region (L_c rfl rfl kr (works_ok) ?_)))))))
  rintro vw hw ew
  cases ew
  refine L_g 1 kr (L_nil (W_ret ?_))
  refine rr ?_
  refine done_of (v := .bool true) (.inl rfl) kr ?_
  rfl
 ·
  refine W_rg 1 kr (L_c rfl rfl kr (count_ok (szl l + 1) l (by omega) (H.ext T0)) ?_)
  rintro v289 h289 ⟨e289, t289⟩
  try dsimp only at e289 t289
  subst e289
  have T289 := T0.ext t289
  have N289 := T289.nx
  have M289 := t289.nx
  refine L_i ((cnl cwr 300 0 l)) (300) (.bool false) rfl rfl kr kr rfl (by simp; omega) (L_g 2 kr ?_)
  have hck := check_ok (fun hd => few_of cwr_small hd (by omega)) (H.ext T289) (fun b hb => by have := hF b hb; omega)
  refine L_want kr (L_c rfl rfl kr (hck) ?_)
  rintro v290 h290 ⟨e290, t290⟩
  try dsimp only at e290 t290
  subst e290
  have T290 := T289.ext t290
  have N290 := T290.nx
  have M290 := t290.nx
  refine L_want kr (L_i ((chk l)) (0) (.bool false) rfl rfl kr kr rfl (by rw [q2]; rfl) (L_g 1 kr (L_nil (W_cF kr (W_skip (W_seq (W_region (L_g 1 kr ?_))))))))
  have hfew : dpl 8 l = false → szl l ≤ 300 := fun hd => few_of cwr_small hd (by omega)
  obtain ⟨hd8, hfm⟩ := chk_ok q2
  have hs3 := hfew hd8
  have hw := wf_fma l 0 hfm
  refine L_c rfl rfl kr (compile_ok q2 hfew (H.ext T290) (fun b hb => by have := hF b hb; omega)) ?_
  rintro v291 h291 ⟨vc, e291, G291, t291⟩
  try dsimp only at t291
  dsimp only at e291 G291 t291
  subst e291
  have T291 := T290.ext t291
  have N291 := T291.nx
  have M291 := t291.nx
  obtain ⟨C, hC⟩ : ∃ q : List Ins, q = (cgs 0 l ++ [iend]) := ⟨_, rfl⟩
  obtain ⟨Hh, GD⟩ := good hfm
  rw [← hC] at GD G291
  have hCl : C.length = (cgs 0 l).length + 1 := by rw [hC]; simp
  have hcl2 := cgs_len 0 l
  have hlast : C[(cgs 0 l).length]? = some iend := by rw [hC]; simp
  have okC : ∀ i x, C[i]? = some x → okI x := fun i x hx => by
   have hm := List.mem_of_getElem? hx
   rw [hC] at hm
   rcases List.mem_append.1 hm with hm | hm
   · exact cgs_ok 0 l hw x hm
   · cases List.mem_singleton.1 hm; exact ⟨(by decide : (1 : Int) ≤ 21), (by decide : (21 : Int) ≤ 21), fun e => by rcases e with e | e <;> cases e⟩
  have hC0 : 0 < C.length := by omega
  have V0 : Go.Arm.Sm Nix h291 h291 := .refl
  have hGl := fun b q => G291.lt (b := b) q
  refine L_g 5 kr (L_nil (W_seq (W_seq (W_region (L_p (nv 0) rfl kr (L_g 3 kr (L_want kr (L_ln _ rfl rfl kr ((G291.ext V0).lenV (T := 33) (el := 37) kr) (L_want kr (L_i ((C.length : Int)) (0) (.bool false) rfl rfl kr kr rfl (by congr 1; exact beq_eq_false_iff_ne.2 (by omega)) (L_g 4 kr ?_)))))))))))
  refine L_want kr (L_ln _ rfl rfl kr ((G291.ext V0).lenV (T := 33) (el := 37) kr) (L_want kr (L_i ((C.length : Int)) (1) (nv (((cgs 0 l).length : Nat) : Int)) rfl rfl kr kr rfl (by rw [show (((cgs 0 l).length : Nat) : Int) = ((C.length - 1 : Nat) : Int) by omega]; exact dec_okC hC0 (by omega)) ?_)))
  obtain ⟨b9, o9, i9, l9⟩ := code_at (P := Tryz.prog) (T := 33) (el := 37) (i := (cgs 0 l).length) (G291.ext V0) kr kr hlast
  refine L_want kr (L_ix _ rfl rfl kr kr (i9) (L_g 1 kr (L_want kr (L_ld _ rfl rfl kr (ld_cell (v := nv 21) kr (l9 0 (by decide))) (L_g 2 kr (L_nil (W_cF kr (W_skip (W_seq (W_region (L_g 1 kr ?_)))))))))))
  refine L_ln _ rfl rfl kr ((G291.ext V0).lenV (T := 33) (el := 37) kr) (L_nwc (zrep C.length [nv 0]) (.sl C.length C.length) rfl rfl (ev_mkK (P := Tryz.prog) (k := 1) (el := 3) (z := nv 0) (by_ := 8) kr kr kr kr rfl (by omega) kr kr) fun h292 c292 t292 n292 => ?_)
  have T292 := T291.ext t292
  have V292 : Go.Arm.Sm Nix h291 h292 := V0.ext t292
  have N292 := T292.nx
  have NV292 := V292.nx
  rw [zrep_nv] at c292
  refine L_g 1 kr (L_nil (W_seq (W_sg 1 kr (L_ln _ rfl rfl kr ((show aLen Tryz.prog 38 (.slice (some ⟨h291.next, 0, none⟩) C.length C.length) h292 = some (.int .i64 (C.length : Int)) by kernel_rfl)) (L_g 1 kr (L_nil (W_block ?_)))))))
  refine W_loop (fun mm fr hh => ∃ (k : Nat) (ht : List Int), (k ≤ C.length) ∧ (ht.length = C.length) ∧ (∀ i, i < k → ht[i]? = some (-1)) ∧ (Go.Arm.Sm Nix h291 hh) ∧ mm = C.length - k ∧ fr 3 = vc ∧ fr 5 = .slice (some ⟨h291.next, 0, none⟩) C.length C.length ∧ fr 49 = nv (C.length : Int) ∧ fr 50 = nv (k : Int) ∧ Sm Nix h hh ∧ Cl hh (h291.next) (ht.map nv)) (C.length) ?_ ?_
  ·
   exact ⟨0, List.replicate C.length 0, Nat.zero_le _, List.length_replicate, (fun i hi => absurd hi (Nat.not_lt_zero _)), V292, rfl, kr, kr, kr, kr, T292, c292⟩
  rintro mm293 fr293 h293 ⟨k, ht, hk, hl, hv, V1, hm293, y293_3, y293_5, y293_49, y293_50, T293, c292⟩
  have N293 := T293.nx
  have B293_t47 := c292.lt
  refine W_set (k := 3) y293_3 (W_set (k := 5) y293_5 (W_set (k := 49) y293_49 (W_set (k := 50) y293_50 ?_)))
  have NV1 := V1.nx
  refine W_sg 1 kr (L_nil (W_seq ?_))
  refine W_cond (decide ((k : Int) < (C.length : Int))) kr (fun hb => ?_) (fun hb => ?_)
  ·
   have hlt : k < C.length := by simp at hb; omega
   refine W_skip (W_seq (W_block (W_sg 2 kr (L_nil (W_rg 2 kr (L_ix _ rfl rfl kr kr (ix_cl (P := Tryz.prog) (T := 38) (el := 3) (b := h291.next) (n := C.length) (i := k) kr kr hlt .i64) ?_))))))
   obtain ⟨h294, e294, d294, t294, n294⟩ := c292.store (P := Tryz.prog) (T := 3) (o := k) (v := nv (-1)) kr rfl rfl (by rw [List.length_map, hl]; exact hlt)
   rw [← List.map_set] at d294
   replace c292 := d294
   have T294 : Go.Arm.Sm Nix h h294 := T293.tr t294
   have V294 : Go.Arm.Sm Nix h291 h294 := V1.tr t294
   have N294 := T294.nx
   have NV294 := V294.nx
   refine L_st _ rfl rfl rfl kr kr (e294) (L_nil (W_region (L_i ((k : Int)) (1) (nv ((k + 1 : Nat) : Int)) rfl rfl kr kr rfl (inc_ok (by omega)) (L_g 1 kr (L_nil ?_)))))
   exact ⟨C.length - (k + 1), by omega, k + 1, ht.set k (-1), by omega, by rw [List.length_set]; exact hl, (fun i hi => by rw [List.getElem?_set]; by_cases e : k = i; (rw [if_pos e, if_pos (by omega)]); (rw [if_neg e]; exact hv i (by omega))), V294, rfl, kr, kr, kr, kr, T294, c292⟩
  ·
   have hge : k = C.length := by simp at hb; omega
   obtain rfl : ht = List.replicate C.length (-1) := all_m1 hl (fun i hi => hv i (by omega))
   refine W_exit ?_
   refine rx ?_
   refine exit_here (W_sg 1 kr (L_ix _ rfl rfl kr kr (ix_cl (P := Tryz.prog) (T := 38) (el := 3) (b := h291.next) (n := C.length) (i := 0) kr kr hC0 .i64) ?_))
   obtain ⟨h295, e295, d295, t295, n295⟩ := c292.store (P := Tryz.prog) (T := 3) (o := 0) (v := nv 0) kr rfl rfl (by simpa using hC0)
   rw [← List.map_set] at d295
   replace c292 := d295
   have T295 : Go.Arm.Sm Nix h h295 := T293.tr t295
   have V295 : Go.Arm.Sm Nix h291 h295 := V1.tr t295
   have N295 := T295.nx
   have NV295 := V295.nx
   refine L_st _ rfl rfl rfl kr kr (e295) (L_nil (W_seq (W_region (L_nwc [nk 0] (.sl 1 1) rfl rfl kr fun h296 c296 t296 n296 => ?_))))
   replace c292 := c292.ext t296
   have T296 : Go.Arm.Sm Nix h h296 := T295.ext t296
   have V296 : Go.Arm.Sm Nix h291 h296 := V295.ext t296
   have N296 := T296.nx
   have NV296 := V296.nx
   have L296 : Lw (h291.next) vc (.slice (some ⟨h295.next, 0, none⟩) 1 1) C h296 ((List.replicate C.length (-1)).set 0 0) [0] := ⟨(G291.ext (V295.ext t296)), c292, To.one c296, fun b hb => by have := hGl b hb; omega, fun b hb => by cases hb; show h291.next < h295.next; omega⟩
   have S0 := Sea.start (c := C) (H := Hh) hC0 GD.zero
   have hb0 : h.next ≤ h291.next := by omega
   refine L_g 1 kr (L_nil (W_seq (W_block ?_)))
   refine W_loop (fun mm fr hh => ∃ (ht : List Int) (td : List Nat) (vt : Value), (Sea C Hh ht td) ∧ (Lw (h291.next) vc vt C hh ht td) ∧ (2 * unset ht + td.length ≤ 2 * C.length) ∧ mm = 2 * unset ht + td.length ∧ fr 3 = vc ∧ fr 5 = .slice (some ⟨h291.next, 0, none⟩) C.length C.length ∧ fr 7 = vt ∧ Go.Arm.Sm Nix h hh) (2 * unset ((List.replicate C.length (-1)).set 0 0) + 1) ?_ ?_
   ·
     exact ⟨_, _, _, S0, L296, unset_0 hC0, rfl, kr, kr, kr, T296⟩
   rintro mm297 fr297 h297 ⟨ht, td, vt, SS, LL, hmC, hm297, y297_3, y297_5, y297_7, T297⟩
   have N297 := T297.nx
   refine W_set (k := 3) y297_3 (W_set (k := 5) y297_5 (W_set (k := 7) y297_7 ?_))
   have U297 : Go.Arm.Sm Nix h297 h297 := .refl
   refine W_seq (W_sg 1 kr (L_ln _ rfl rfl kr ((LL.ext U297).t.sd.len (T := 38) (el := 3) kr) (L_i ((td.length : Int)) (0) (.bool (decide (0 < td.length))) rfl rfl kr kr rfl (by simp) (L_nil ?_))))
   refine W_cond (decide (0 < td.length)) kr (fun hb => ?_) (fun hb => ?_)
   ·
     have hpos : 0 < td.length := of_decide_eq_true hb
     obtain ⟨r, i, rfl⟩ := todo_last hpos
     have hi := SS.lt (i := i) (by simp)
     obtain ⟨x, hx⟩ : ∃ x, C[i]? = some x := ⟨_, List.getElem?_eq_getElem hi.1⟩
     have hnn := GD.nn i x hx
     have htp := SS.top i _ hi.2
     have hcg := chg_le x
     have htl : (r ++ [i]).length = r.length + 1 := by simp
     have hLt := fun b q => LL.t.sd.lt (b := b) q
     have htlen : (r ++ [i]).length ≤ 10000000 := by omega
     refine W_skip (W_block (W_sg 2 kr (L_ln _ rfl rfl kr ((LL.ext U297).t.sd.len (T := 38) (el := 3) kr) (L_i (((r ++ [i]).length : Int)) (1) (nv ((r.length : Nat) : Int)) rfl rfl kr kr rfl (by rw [show ((r.length : Nat) : Int) = (((r ++ [i]).length - 1 : Nat) : Int) by omega]; exact dec_okT htl htlen) ?_))))
     obtain ⟨b8, o8, _, i8, l8⟩ := (LL.ext U297).t.sd.at (P := Tryz.prog) (T := 38) (el := 3) kr kr (i := r.length) (by omega) .i64
     refine L_ix _ rfl rfl kr kr (i8) (L_ld _ rfl rfl kr (ld_cell (v := nk i) kr (by have := l8 0 (by decide); rw [Nat.add_zero, Nat.mul_one, Nat.add_zero] at this; rw [this]; simp)) (L_g 1 kr (L_nil (W_sg 2 kr (L_ln _ rfl rfl kr ((LL.ext U297).t.sd.len (T := 38) (el := 3) kr) (L_i (((r ++ [i]).length : Int)) (1) (nv ((r.length : Nat) : Int)) rfl rfl kr kr rfl (by rw [show ((r.length : Nat) : Int) = (((r ++ [i]).length - 1 : Nat) : Int) by omega]; exact dec_okT htl htlen) ?_))))))
     obtain ⟨v9, e9, L9⟩ := (LL.ext U297).cut (P := Tryz.prog) (T := 38) (el := 3) kr kr
     have U9 : Go.Arm.Sm Nix h297 h297 := .refl
     refine L_sl _ rfl rfl kr kr kr kr (e9) (L_g 1 kr (L_nil (W_seq (W_region (L_g 2 kr ?_)))))
     obtain ⟨b9, o9, i9, l9⟩ := code_at (P := Tryz.prog) (T := 33) (el := 37) (i := i) (L9.ext U9).g kr kr hx
     refine L_ix _ rfl rfl kr kr (i9) (L_ld _ rfl rfl kr (ld_l (l := insc x) kr (fun j hj => l9 j hj)) (L_c rfl rfl kr (change_ok (okC i x hx)) ?_))
     rintro v298 h298 ⟨e298, t298⟩
     try dsimp only at e298 t298
     subst e298
     have T298 : Go.Arm.Sm Nix h h298 := T297.ext t298
     have U298 : Go.Arm.Sm Nix h297 h298 := U9.ext t298
     have N298 := T298.nx
     have NU298 := U298.nx
     have M298 := t298.nx
     refine L_g 5 kr (L_nil (W_seq ?_))
     refine W_seq_cut (fun fr hh => hh = h298 ∧ fr 3 = vc ∧ fr 5 = .slice (some ⟨h291.next, 0, none⟩) C.length C.length ∧ fr 7 = v9 ∧ fr 8 = nk i ∧ fr 9 = nv (chg x).1 ∧ fr 109 = .bool false ∧ Go.Arm.Sm Nix h hh) ?_ ?_
     ·
      by_cases q1 : x.op = 21
      ·
       refine W_rg 2 kr (L_ix _ rfl rfl kr kr (ix_cl (P := Tryz.prog) (T := 38) (el := 3) (b := h291.next) (n := C.length) (i := i) kr kr hi.1 .i64) (L_ld _ rfl rfl kr ((L9.ext U298).hgt (P := Tryz.prog) (T := 3) (z := (Hh i)) kr hi.2) (L_g 1 kr (L_i ((Hh i)) ((chg x).2) (.bool false) rfl rfl kr kr rfl (by have := GD.pop i x hx; simp; omega) (L_g 3 kr ?_)))))
       obtain ⟨b9, o9, i9, l9⟩ := code_at (P := Tryz.prog) (T := 33) (el := 37) (i := i) (L9.ext U298).g kr kr hx
       refine L_want kr (L_ix _ rfl rfl kr kr (i9) (L_g 1 kr (L_want kr (L_ld _ rfl rfl kr (ld_cell (v := nv x.op) kr (l9 0 (by decide))) (L_want kr (L_i (x.op) (21) (.bool true) rfl rfl kr kr rfl (by simp; omega) (L_g 3 kr (L_want kr (L_ix _ rfl rfl kr kr (ix_cl (P := Tryz.prog) (T := 38) (el := 3) (b := h291.next) (n := C.length) (i := i) kr kr hi.1 .i64) (L_want kr (L_ld _ rfl rfl kr ((L9.ext U298).hgt (P := Tryz.prog) (T := 3) (z := (Hh i)) kr hi.2) ?_)))))))))))
       refine L_want kr (L_i ((Hh i)) (0) (.bool false) rfl rfl kr kr rfl (by rw [(GD.fin i x hx q1).1]; rfl) (L_g 3 kr (L_want kr (L_ln _ rfl rfl kr ((L9.ext U298).g.lenV (T := 33) (el := 37) kr) (L_want kr (L_i ((C.length : Int)) (1) (nv ((C.length - 1 : Nat) : Int)) rfl rfl kr kr rfl (dec_okC hC0 (by omega)) (L_want kr (L_i ((i : Int)) (((C.length - 1 : Nat) : Int)) (.bool false) rfl rfl kr kr rfl (by have := (GD.fin i x hx q1).2; simp; omega) (L_g 3 kr (L_nil ?_))))))))))
       exact ⟨rfl, kr, kr, kr, kr, kr, kr, T298⟩
      ·
       refine W_rg 2 kr (L_ix _ rfl rfl kr kr (ix_cl (P := Tryz.prog) (T := 38) (el := 3) (b := h291.next) (n := C.length) (i := i) kr kr hi.1 .i64) (L_ld _ rfl rfl kr ((L9.ext U298).hgt (P := Tryz.prog) (T := 3) (z := (Hh i)) kr hi.2) (L_g 1 kr (L_i ((Hh i)) ((chg x).2) (.bool false) rfl rfl kr kr rfl (by have := GD.pop i x hx; simp; omega) (L_g 3 kr ?_)))))
       obtain ⟨b9, o9, i9, l9⟩ := code_at (P := Tryz.prog) (T := 33) (el := 37) (i := i) (L9.ext U298).g kr kr hx
       refine L_want kr (L_ix _ rfl rfl kr kr (i9) (L_g 1 kr (L_want kr (L_ld _ rfl rfl kr (ld_cell (v := nv x.op) kr (l9 0 (by decide))) (L_want kr (L_i (x.op) (21) (.bool false) rfl rfl kr kr rfl (by simp; omega) (L_g 15 kr (L_nil ?_))))))))
       exact ⟨rfl, kr, kr, kr, kr, kr, kr, T298⟩
     ·
      rintro fr299 h299 ⟨eh, y299_3, y299_5, y299_7, y299_8, y299_9, y299_109, T299⟩
      have N299 := T299.nx
      refine W_set (k := 3) y299_3 (W_set (k := 5) y299_5 (W_set (k := 7) y299_7 (W_set (k := 8) y299_8 (W_set (k := 9) y299_9 (W_set (k := 109) y299_109 ?_)))))
      subst eh
      refine W_cF kr (W_skip (W_sg 1 kr (L_nil ?_)))
      refine W_seq_cut (fun fr hh => ∃ (v11 : Value), (Gr hh 1 v11 (sc1 x).length ((sc1 x).map nv)) ∧ (Lw (h291.next) vc v9 C hh ht r) ∧ (x = x ∧ ∀ b, Go.Arm.vb v11 = some b → h291.next < b ∧ Go.Arm.vb v9 ≠ some b) ∧ fr 3 = vc ∧ fr 5 = .slice (some ⟨h291.next, 0, none⟩) C.length C.length ∧ fr 7 = v9 ∧ fr 8 = nk i ∧ fr 9 = nv (chg x).1 ∧ fr 11 = v11 ∧ Go.Arm.Sm Nix h hh) ?_ ?_
      ·
       refine W_seq ?_
       have h3 : x.op = 9 ∨ x.op = 10 ∨ (x.op ≠ 9 ∧ x.op ≠ 10) := by omega
       rcases h3 with q2 | q2 | ⟨q2, q3⟩
       ·
        skip
        refine W_region (L_g 2 kr ?_)
        obtain ⟨b9, o9, i9, l9⟩ := code_at (P := Tryz.prog) (T := 33) (el := 37) (i := i) (L9.ext U298).g kr kr hx
        refine L_ix _ rfl rfl kr kr (i9) (L_g 1 kr (L_ld _ rfl rfl kr (ld_cell (v := nv x.op) kr (l9 0 (by decide))) (L_i (x.op) (9) (.bool true) rfl rfl kr kr rfl (by simp; omega) (L_g 8 kr (L_nil (W_cT kr (W_region (L_g 3 kr ?_))))))))
        obtain ⟨b9, o9, i9, l9⟩ := code_at (P := Tryz.prog) (T := 33) (el := 37) (i := i) (L9.ext U298).g kr kr hx
        refine L_ix _ rfl rfl kr kr (i9) (L_g 1 kr (L_ld _ rfl rfl kr (ld_cell (v := nv x.arg) kr (l9 1 (by decide))) (L_nwc [nv x.arg] (.sl 1 1) rfl rfl kr fun h300 c300 t300 n300 => ?_)))
        have T300 : Go.Arm.Sm Nix h h300 := T298.ext t300
        have U300 : Go.Arm.Sm Nix h297 h300 := U298.ext t300
        have N300 := T300.nx
        have NU300 := U300.nx
        have n30 : ∀ b, Go.Arm.vb (.slice none 0 0) = some b → h291.next < b ∧ Go.Arm.vb v9 ≠ some b := fun b e => by cases e
        have lh301 := (L9.ext U300).hc.lt
        have lt301 := fun b q => (L9.ext U300).t.sd.lt (b := b) q
        obtain ⟨v301, h301, e301, g301, t301, f301⟩ := ((Gr.nil : Gr h300 1 (.slice none 0 0) 0 [])).append (P := Tryz.prog) (sT := 38) (xT := 38) (el := 3) (by_ := 8) (z := nv 0) kr kr kr kr kr rfl (by decide) (c300.sd rfl) (List.all_eq_true.1 rfl) (by first | (show (0 + 1) * 9 < 1099511627776; decide) | (unfold sc1; split <;> (show (_ + 1) * 9 < 1099511627776; simp)))
        refine L_bi v301 h301 rfl rfl kr (vs := [.slice none 0 0, .slice (some ⟨h299.next, 0, none⟩) 1 1]) kr (bi_append e301) ?_
        replace c300 := c300.lt
        have T301 : Go.Arm.Sm Nix h h301 := T300.trans t301 (fun x hx => .inr (by have := (n30 x hx).1; omega))
        have N301 := T301.nx
        have U301 : Go.Arm.Sm Nix h301 h301 := .refl
        have L301 := (L9.ext U300).sm3 t301 n30
        have n3_301 : ∀ b, Go.Arm.vb v301 = some b → h291.next < b ∧ Go.Arm.vb v9 ≠ some b := fun b hb => (f301 b hb).elim (n30 b) (fun e => ⟨by omega, fun q => by have := lt301 b q; omega⟩)
        refine L_g 1 kr (L_nil ?_)
        skip
        exact ⟨v301, (by unfold sc1; rw [if_pos (by omega)]; exact g301), L301.ext U301, ⟨rfl, n3_301⟩, kr, kr, kr, kr, kr, kr, T301⟩
       ·
        skip
        refine W_region (L_g 2 kr ?_)
        obtain ⟨b9, o9, i9, l9⟩ := code_at (P := Tryz.prog) (T := 33) (el := 37) (i := i) (L9.ext U298).g kr kr hx
        refine L_ix _ rfl rfl kr kr (i9) (L_g 1 kr (L_ld _ rfl rfl kr (ld_cell (v := nv x.op) kr (l9 0 (by decide))) (L_i (x.op) (9) (.bool false) rfl rfl kr kr rfl (by simp; omega) (L_g 3 kr ?_))))
        obtain ⟨b9, o9, i9, l9⟩ := code_at (P := Tryz.prog) (T := 33) (el := 37) (i := i) (L9.ext U298).g kr kr hx
        refine L_want kr (L_ix _ rfl rfl kr kr (i9) (L_g 1 kr (L_want kr (L_ld _ rfl rfl kr (ld_cell (v := nv x.op) kr (l9 0 (by decide))) (L_want kr (L_i (x.op) (10) (.bool true) rfl rfl kr kr rfl (by simp; omega) (L_g 1 kr (L_nil (W_cT kr (W_region (L_g 3 kr ?_)))))))))))
        obtain ⟨b9, o9, i9, l9⟩ := code_at (P := Tryz.prog) (T := 33) (el := 37) (i := i) (L9.ext U298).g kr kr hx
        refine L_ix _ rfl rfl kr kr (i9) (L_g 1 kr (L_ld _ rfl rfl kr (ld_cell (v := nv x.arg) kr (l9 1 (by decide))) (L_nwc [nv x.arg] (.sl 1 1) rfl rfl kr fun h302 c302 t302 n302 => ?_)))
        have T302 : Go.Arm.Sm Nix h h302 := T298.ext t302
        have U302 : Go.Arm.Sm Nix h297 h302 := U298.ext t302
        have N302 := T302.nx
        have NU302 := U302.nx
        have n30 : ∀ b, Go.Arm.vb (.slice none 0 0) = some b → h291.next < b ∧ Go.Arm.vb v9 ≠ some b := fun b e => by cases e
        have lh303 := (L9.ext U302).hc.lt
        have lt303 := fun b q => (L9.ext U302).t.sd.lt (b := b) q
        obtain ⟨v303, h303, e303, g303, t303, f303⟩ := ((Gr.nil : Gr h302 1 (.slice none 0 0) 0 [])).append (P := Tryz.prog) (sT := 38) (xT := 38) (el := 3) (by_ := 8) (z := nv 0) kr kr kr kr kr rfl (by decide) (c302.sd rfl) (List.all_eq_true.1 rfl) (by first | (show (0 + 1) * 9 < 1099511627776; decide) | (unfold sc1; split <;> (show (_ + 1) * 9 < 1099511627776; simp)))
        refine L_bi v303 h303 rfl rfl kr (vs := [.slice none 0 0, .slice (some ⟨h299.next, 0, none⟩) 1 1]) kr (bi_append e303) ?_
        replace c302 := c302.lt
        have T303 : Go.Arm.Sm Nix h h303 := T302.trans t303 (fun x hx => .inr (by have := (n30 x hx).1; omega))
        have N303 := T303.nx
        have U303 : Go.Arm.Sm Nix h303 h303 := .refl
        have L303 := (L9.ext U302).sm3 t303 n30
        have n3_303 : ∀ b, Go.Arm.vb v303 = some b → h291.next < b ∧ Go.Arm.vb v9 ≠ some b := fun b hb => (f303 b hb).elim (n30 b) (fun e => ⟨by omega, fun q => by have := lt303 b q; omega⟩)
        refine L_g 1 kr (L_nil ?_)
        skip
        exact ⟨v303, (by unfold sc1; rw [if_pos (by omega)]; exact g303), L303.ext U303, ⟨rfl, n3_303⟩, kr, kr, kr, kr, kr, kr, T303⟩
       ·
        skip
        refine W_region (L_p (vc) rfl kr (L_g 1 kr ?_))
        obtain ⟨b9, o9, i9, l9⟩ := code_at (P := Tryz.prog) (T := 33) (el := 37) (i := i) (L9.ext U298).g kr kr hx
        refine L_ix _ rfl rfl kr kr (i9) (L_g 1 kr (L_ld _ rfl rfl kr (ld_cell (v := nv x.op) kr (l9 0 (by decide))) (L_i (x.op) (9) (.bool false) rfl rfl kr kr rfl (by simp; omega) (L_g 3 kr ?_))))
        obtain ⟨b9, o9, i9, l9⟩ := code_at (P := Tryz.prog) (T := 33) (el := 37) (i := i) (L9.ext U298).g kr kr hx
        refine L_want kr (L_ix _ rfl rfl kr kr (i9) (L_g 1 kr (L_want kr (L_ld _ rfl rfl kr (ld_cell (v := nv x.op) kr (l9 0 (by decide))) (L_want kr (L_i (x.op) (10) (.bool false) rfl rfl kr kr rfl (by simp; omega) (L_g 1 kr (L_nil (W_cF kr (W_skip ?_))))))))))
        skip
        exact ⟨(.slice none 0 0), (by unfold sc1; rw [if_neg (by omega)]; exact Gr.nil), L9.ext U298, ⟨rfl, (fun b e => by cases e)⟩, kr, kr, kr, kr, kr, kr, T298⟩
      ·
       rintro fr304 h304 ⟨v11, g11, L11, n3, y304_3, y304_5, y304_7, y304_8, y304_9, y304_11, T304⟩
       have N304 := T304.nx
       refine W_set (k := 3) y304_3 (W_set (k := 5) y304_5 (W_set (k := 7) y304_7 (W_set (k := 8) y304_8 (W_set (k := 9) y304_9 (W_set (k := 11) y304_11 ?_)))))
       have U304 : Go.Arm.Sm Nix h304 h304 := .refl
       replace n3 := n3.2
       refine W_seq_cut (fun fr hh => ∃ (v12 : Value), (Gr hh 1 v12 (succs i x).length ((succs i x).map nv)) ∧ (Lw (h291.next) vc v9 C hh ht r) ∧ (x = x ∧ ∀ b, Go.Arm.vb v12 = some b → h291.next < b ∧ Go.Arm.vb v9 ≠ some b) ∧ fr 3 = vc ∧ fr 5 = .slice (some ⟨h291.next, 0, none⟩) C.length C.length ∧ fr 7 = v9 ∧ fr 8 = nk i ∧ fr 9 = nv (chg x).1 ∧ fr 11 = v12 ∧ Go.Arm.Sm Nix h hh) ?_ ?_
       ·
        refine W_seq ?_
        have h3 : x.op = 9 ∨ (x.op ≠ 9 ∧ x.op = 21) ∨ (x.op ≠ 9 ∧ x.op ≠ 21) := by omega
        rcases h3 with q2 | ⟨q2, q3⟩ | ⟨q2, q3⟩
        ·
         refine W_region (L_p (vc) rfl kr (L_g 1 kr ?_))
         obtain ⟨b9, o9, i9, l9⟩ := code_at (P := Tryz.prog) (T := 33) (el := 37) (i := i) (L11.ext U304).g kr kr hx
         refine L_ix _ rfl rfl kr kr (i9) (L_g 1 kr (L_ld _ rfl rfl kr (ld_cell (v := nv x.op) kr (l9 0 (by decide))) (L_i (x.op) (9) (.bool false) rfl rfl kr kr rfl (by simp; omega) (L_g 8 kr (L_nil (W_cF kr (W_skip ?_)))))))
         skip
         exact ⟨v11, (by unfold succs; rw [if_pos (by omega), List.append_nil]; exact g11.ext U304), L11.ext U304, ⟨rfl, n3⟩, kr, kr, kr, kr, kr, kr, T304⟩
        ·
         refine W_region (L_p (vc) rfl kr (L_g 1 kr ?_))
         obtain ⟨b9, o9, i9, l9⟩ := code_at (P := Tryz.prog) (T := 33) (el := 37) (i := i) (L11.ext U304).g kr kr hx
         refine L_ix _ rfl rfl kr kr (i9) (L_g 1 kr (L_ld _ rfl rfl kr (ld_cell (v := nv x.op) kr (l9 0 (by decide))) (L_i (x.op) (9) (.bool true) rfl rfl kr kr rfl (by simp; omega) (L_g 3 kr ?_))))
         obtain ⟨b9, o9, i9, l9⟩ := code_at (P := Tryz.prog) (T := 33) (el := 37) (i := i) (L11.ext U304).g kr kr hx
         refine L_want kr (L_ix _ rfl rfl kr kr (i9) (L_g 1 kr (L_want kr (L_ld _ rfl rfl kr (ld_cell (v := nv x.op) kr (l9 0 (by decide))) (L_want kr (L_i (x.op) (21) (.bool false) rfl rfl kr kr rfl (by simp; omega) (L_g 1 kr (L_nil (W_cF kr (W_skip ?_))))))))))
         skip
         exact ⟨v11, (by unfold succs; rw [if_pos (by omega), List.append_nil]; exact g11.ext U304), L11.ext U304, ⟨rfl, n3⟩, kr, kr, kr, kr, kr, kr, T304⟩
        ·
         refine W_region (L_g 2 kr ?_)
         obtain ⟨b9, o9, i9, l9⟩ := code_at (P := Tryz.prog) (T := 33) (el := 37) (i := i) (L11.ext U304).g kr kr hx
         refine L_ix _ rfl rfl kr kr (i9) (L_g 1 kr (L_ld _ rfl rfl kr (ld_cell (v := nv x.op) kr (l9 0 (by decide))) (L_i (x.op) (9) (.bool true) rfl rfl kr kr rfl (by simp; omega) (L_g 3 kr ?_))))
         obtain ⟨b9, o9, i9, l9⟩ := code_at (P := Tryz.prog) (T := 33) (el := 37) (i := i) (L11.ext U304).g kr kr hx
         refine L_want kr (L_ix _ rfl rfl kr kr (i9) (L_g 1 kr (L_want kr (L_ld _ rfl rfl kr (ld_cell (v := nv x.op) kr (l9 0 (by decide))) (L_want kr (L_i (x.op) (21) (.bool true) rfl rfl kr kr rfl (by simp; omega) (L_g 1 kr (L_nil (W_cT kr (W_region (L_g 2 kr ?_)))))))))))
         refine L_i ((i : Int)) (1) (nv ((i + 1 : Nat) : Int)) rfl rfl kr kr rfl (inc_ok (by omega)) (L_nwc [nv ((i + 1 : Nat) : Int)] (.sl 1 1) rfl rfl kr fun h305 c305 t305 n305 => ?_)
         have T305 : Go.Arm.Sm Nix h h305 := T304.ext t305
         have U305 : Go.Arm.Sm Nix h304 h305 := U304.ext t305
         have N305 := T305.nx
         have NU305 := U305.nx
         have lh306 := (L11.ext U305).hc.lt
         have lt306 := fun b q => (L11.ext U305).t.sd.lt (b := b) q
         obtain ⟨v306, h306, e306, g306, t306, f306⟩ := ((g11.ext U305)).append (P := Tryz.prog) (sT := 38) (xT := 38) (el := 3) (by_ := 8) (z := nv 0) kr kr kr kr kr rfl (by decide) (c305.sd rfl) (List.all_eq_true.1 rfl) (by first | (show (0 + 1) * 9 < 1099511627776; decide) | (unfold sc1; split <;> (show (_ + 1) * 9 < 1099511627776; simp)))
         refine L_bi v306 h306 rfl rfl kr (vs := [v11, .slice (some ⟨h304.next, 0, none⟩) 1 1]) kr (bi_append e306) ?_
         replace c305 := c305.lt
         have T306 : Go.Arm.Sm Nix h h306 := T305.trans t306 (fun x hx => .inr (by have := (n3 x hx).1; omega))
         have N306 := T306.nx
         have U306 : Go.Arm.Sm Nix h306 h306 := .refl
         have L306 := (L11.ext U305).sm3 t306 n3
         have n3_306 : ∀ b, Go.Arm.vb v306 = some b → h291.next < b ∧ Go.Arm.vb v9 ≠ some b := fun b hb => (f306 b hb).elim (n3 b) (fun e => ⟨by omega, fun q => by have := lt306 b q; omega⟩)
         refine L_g 1 kr (L_nil ?_)
         skip
         exact ⟨v306, (by unfold succs; rw [if_neg (by omega), List.length_append, List.map_append]; exact g306), L306.ext U306, ⟨rfl, n3_306⟩, kr, kr, kr, kr, kr, kr, T306⟩
       ·
        rintro fr307 h307 ⟨v12, g12, L12, n4, y307_3, y307_5, y307_7, y307_8, y307_9, y307_11, T307⟩
        have N307 := T307.nx
        refine W_set (k := 3) y307_3 (W_set (k := 5) y307_5 (W_set (k := 7) y307_7 (W_set (k := 8) y307_8 (W_set (k := 9) y307_9 (W_set (k := 11) y307_11 ?_)))))
        have U307 : Go.Arm.Sm Nix h307 h307 := .refl
        replace n4 := n4.2
        have X0 : Lx (h291.next) vc v9 v12 C h307 ht r (succs i x) := ⟨L12, g12.sd, n4⟩
        refine W_sg 1 kr (L_ln _ rfl rfl kr ((g12.ext U307).lenV (T := 38) (el := 3) kr) (L_g 1 kr (L_nil (W_block ?_))))
        refine W_loop (fun mm fr hh => ∃ (k : Nat) (ht2 : List Int) (td2 : List Nat) (vt2 : Value), (k ≤ (succs i x).length) ∧ (Sea C Hh ht2 td2) ∧ (Lx (h291.next) vc vt2 v12 C hh ht2 td2 (succs i x)) ∧ (ht2[i]? = some (Hh i)) ∧ (2 * unset ht2 + td2.length ≤ 2 * unset ht + r.length) ∧ mm = (succs i x).length - k ∧ fr 3 = vc ∧ fr 5 = .slice (some ⟨h291.next, 0, none⟩) C.length C.length ∧ fr 7 = vt2 ∧ fr 8 = nk i ∧ fr 9 = nv (chg x).1 ∧ fr 151 = v12 ∧ fr 152 = nv ((succs i x).length : Int) ∧ fr 153 = nv (k : Int) ∧ Go.Arm.Sm Nix h hh) ((succs i x).length) ?_ ?_
        ·
         exact ⟨0, ht, r, v9, Nat.zero_le _, SS.drop (fun j hj => List.mem_append_left _ hj), (X0.ext U307), hi.2, Nat.le_refl _, rfl, kr, kr, kr, kr, kr, kr, kr, kr, T307⟩
        rintro mm308 fr308 h308 ⟨k, ht2, td2, vt2, hk, S2, X2, hi2, hm2, hm308, y308_3, y308_5, y308_7, y308_8, y308_9, y308_151, y308_152, y308_153, T308⟩
        have N308 := T308.nx
        refine W_set (k := 3) y308_3 (W_set (k := 5) y308_5 (W_set (k := 7) y308_7 (W_set (k := 8) y308_8 (W_set (k := 9) y308_9 (W_set (k := 151) y308_151 (W_set (k := 152) y308_152 (W_set (k := 153) y308_153 ?_)))))))
        have U308 : Go.Arm.Sm Nix h308 h308 := .refl
        refine W_sg 1 kr (L_nil (W_seq ?_))
        refine W_cond (decide ((k : Int) < ((succs i x).length : Nat))) kr (fun hb => ?_) (fun hb => ?_)
        ·
         have hlk : k < (succs i x).length := by simp at hb; omega
         obtain ⟨z, hz⟩ : ∃ z, (succs i x)[k]? = some z := ⟨_, List.getElem?_eq_getElem hlk⟩
         obtain ⟨q, rfl, hq2, hHq, hq4⟩ := GD.succ hx z (List.mem_of_getElem? hz)
         obtain ⟨w, hw8⟩ : ∃ w, ht2[q]? = some w := ⟨_, List.getElem?_eq_getElem (by rw [S2.len]; exact hq2)⟩
         have htp2 := S2.top i _ hi2
         obtain ⟨b8, o8, _, i8, l8⟩ := (X2.ext U308).s.at (P := Tryz.prog) (T := 38) (el := 3) kr kr hlk .i64
         refine W_skip (W_seq (W_block (W_seq (W_region (L_ix _ rfl rfl kr kr (i8) ?_)))))
         refine L_ld _ rfl rfl kr (ld_cell (v := nv (q : Int)) kr (by have := l8 0 (by decide); rw [Nat.add_zero, Nat.mul_one, Nat.add_zero] at this; rw [this, List.getElem?_map, hz]; rfl)) ?_
         refine L_g 1 kr (L_nil (W_seq (W_seq ?_)))
         have h2 : ht2[q]? = some (Hh q) ∨ ht2[q]? = some (-1) := (S2.val q w hw8).elim (fun e => .inr (e ▸ hw8)) (fun e => .inl (e ▸ hw8))
         rcases h2 with hw9 | hw9
         ·
          refine W_drawn kr (D_l (l := [0,1,2,3,4,5,6,7,8,9,10,11,12,13,14,15,16,17,18,19,20,21,22,23,24,25,26,27]) kr kr Rk_nil (NS_b 1 kr (NS_i ((q : Int)) (0) (.bool false) rfl rfl kr kr kr kr rfl (by first | (simp; done) | (simp; omega)) (NS_b 3 kr (NS_ln _ rfl rfl kr kr kr ((X2.ext U308).w.g.lenV (T := 33) (el := 37) kr) (NS_i ((q : Int)) ((C.length : Int)) (.bool false) rfl rfl kr kr kr kr rfl (by first | (simp; done) | (simp; omega)) (NS_b 4 kr (NS_ix _ rfl rfl kr kr kr kr (ix_cl (P := Tryz.prog) (T := 38) (el := 3) (b := h291.next) (n := C.length) (i := q) kr kr hq2 .i64) (NS_ld _ rfl rfl kr kr kr ((X2.ext U308).w.hgt (P := Tryz.prog) (T := 3) (z := (Hh q)) kr hw9) (NS_i ((Hh q)) (0) (.bool true) rfl rfl kr kr kr kr rfl (by first | (simp; done) | (simp; omega)) (NS_b 3 kr ?_)))))))))))
          refine NS_ix _ rfl rfl kr kr kr kr (ix_cl (P := Tryz.prog) (T := 38) (el := 3) (b := h291.next) (n := C.length) (i := q) kr kr hq2 .i64) (NS_ld _ rfl rfl kr kr kr ((X2.ext U308).w.hgt (P := Tryz.prog) (T := 3) (z := (Hh q)) kr hw9) (NS_b 2 kr (NS_ix _ rfl rfl kr kr kr kr (ix_cl (P := Tryz.prog) (T := 38) (el := 3) (b := h291.next) (n := C.length) (i := i) kr kr hi.1 .i64) (NS_ld _ rfl rfl kr kr kr ((X2.ext U308).w.hgt (P := Tryz.prog) (T := 3) (z := (Hh i)) kr hi2) (NS_b 1 kr (NS_i ((Hh i)) ((chg x).1) (nv (Hh q)) rfl rfl kr kr kr kr rfl (by rw [hHq]; exact wrap_id (by omega) (by omega)) (NS_i ((Hh q)) ((Hh q)) (.bool false) rfl rfl kr kr kr kr rfl (by simp) (NS_b 2 kr (NS_nil (W_cF kr (W_skip ?_)))))))))))
          refine W_sg 2 kr (L_ix _ rfl rfl kr kr (ix_cl (P := Tryz.prog) (T := 38) (el := 3) (b := h291.next) (n := C.length) (i := q) kr kr hq2 .i64) (L_ld _ rfl rfl kr ((X2.ext U308).w.hgt (P := Tryz.prog) (T := 3) (z := (Hh q)) kr hw9) (L_i ((Hh q)) (0) (.bool false) rfl rfl kr kr rfl (by first | (simp; done) | (simp; omega)) (L_nil (W_cF kr (W_skip (W_region (L_i ((k : Int)) (1) (nv ((k + 1 : Nat) : Int)) rfl rfl kr kr rfl (inc_ok (Nat.lt_of_lt_of_le hlk (Nat.le_trans (succs_len i x) (by decide)))) (L_g 1 kr ?_)))))))))
          refine L_nil ?_
          exact ⟨(succs i x).length - (k + 1), by omega, k + 1, _, _, _, by omega, S2, X2.ext U308, hi2, hm2, rfl, kr, kr, kr, kr, kr, kr, kr, kr, T308⟩
         ·
          have hqi : q ≠ i := fun e => by rw [e, hi2] at hw9; have := Option.some.inj hw9; omega
          refine W_drawn kr (D_l (l := [0,1,2,3,4,5,6,7,8,9,10,11,12,13,14,15,16,17,18,19,20,21,22,23,24,25,26,27]) kr kr Rk_nil (NS_b 1 kr (NS_i ((q : Int)) (0) (.bool false) rfl rfl kr kr kr kr rfl (by first | (simp; done) | (simp; omega)) (NS_b 3 kr (NS_ln _ rfl rfl kr kr kr ((X2.ext U308).w.g.lenV (T := 33) (el := 37) kr) (NS_i ((q : Int)) ((C.length : Int)) (.bool false) rfl rfl kr kr kr kr rfl (by first | (simp; done) | (simp; omega)) (NS_b 4 kr (NS_ix _ rfl rfl kr kr kr kr (ix_cl (P := Tryz.prog) (T := 38) (el := 3) (b := h291.next) (n := C.length) (i := q) kr kr hq2 .i64) (NS_ld _ rfl rfl kr kr kr ((X2.ext U308).w.hgt (P := Tryz.prog) (T := 3) (z := (-1)) kr hw9) (NS_i ((-1)) (0) (.bool false) rfl rfl kr kr kr kr rfl (by first | (simp; done) | (simp; omega)) (NS_b 14 kr ?_)))))))))))
          refine NS_nil (W_cF kr (W_skip (W_sg 2 kr (L_ix _ rfl rfl kr kr (ix_cl (P := Tryz.prog) (T := 38) (el := 3) (b := h291.next) (n := C.length) (i := q) kr kr hq2 .i64) (L_ld _ rfl rfl kr ((X2.ext U308).w.hgt (P := Tryz.prog) (T := 3) (z := (-1)) kr hw9) (L_i ((-1)) (0) (.bool true) rfl rfl kr kr rfl (by first | (simp; done) | (simp; omega)) (L_nil (W_cT kr (W_seq ?_)))))))))
          refine W_rg 4 kr (L_ix _ rfl rfl kr kr (ix_cl (P := Tryz.prog) (T := 38) (el := 3) (b := h291.next) (n := C.length) (i := i) kr kr hi.1 .i64) (L_ld _ rfl rfl kr ((X2.ext U308).w.hgt (P := Tryz.prog) (T := 3) (z := (Hh i)) kr hi2) (L_g 1 kr (L_i ((Hh i)) ((chg x).1) (nv (Hh q)) rfl rfl kr kr rfl (by rw [hHq]; exact wrap_id (by omega) (by omega)) (L_ix _ rfl rfl kr kr (ix_cl (P := Tryz.prog) (T := 38) (el := 3) (b := h291.next) (n := C.length) (i := q) kr kr hq2 .i64) ?_)))))
          obtain ⟨h309, e309, X309, t309, n309⟩ := (X2.ext U308).setH (P := Tryz.prog) (T := 3) (i := q) (z := Hh q) kr (by rw [S2.len]; exact hq2)
          refine L_st _ rfl rfl rfl kr kr (e309) ?_
          have T309 : Go.Arm.Sm Nix h h309 := T308.trans t309 (fun x hx => .inr (by rw [hx]; exact hb0))
          have N309 := T309.nx
          have U309 : Go.Arm.Sm Nix h309 h309 := .refl
          refine L_nil (W_rg 2 kr (L_nwc [nk q] (.sl 1 1) rfl rfl kr fun h310 c310 t310 n310 => ?_))
          have T310 : Go.Arm.Sm Nix h h310 := T309.ext t310
          have U310 : Go.Arm.Sm Nix h309 h310 := U309.ext t310
          have N310 := T310.nx
          have NU310 := U310.nx
          have n5311 := (X309.ext U310).w.n2
          obtain ⟨v311, h311, e311, X311, t311⟩ := (X309.ext U310).push (P := Tryz.prog) (sT := 38) (xT := 38) (el := 3) (by_ := 8) (j := q) (z := nv 0) kr kr kr kr kr rfl (c310.sd rfl) (by omega)
          refine L_bi v311 h311 rfl rfl kr (vs := [vt2, .slice (some ⟨h309.next, 0, none⟩) 1 1]) kr (bi_append e311) ?_
          replace c310 := c310.lt
          have T311 : Go.Arm.Sm Nix h h311 := T310.trans t311 (fun x hx => .inr (by have := n5311 x hx; omega))
          have N311 := T311.nx
          have U311 : Go.Arm.Sm Nix h311 h311 := .refl
          refine L_g 1 kr (L_nil (W_region (L_i ((k : Int)) (1) (nv ((k + 1 : Nat) : Int)) rfl rfl kr kr rfl (inc_ok (Nat.lt_of_lt_of_le hlk (Nat.le_trans (succs_len i x) (by decide)))) (L_g 1 kr (L_nil ?_)))))
          exact ⟨(succs i x).length - (k + 1), by omega, k + 1, ht2.set q (Hh q), td2 ++ [q], v311, by omega, S2.new hq2 hq4 hw9 (by decide) hi2 (by omega), X311.ext U311, (by rw [List.getElem?_set, if_neg hqi]; exact hi2), (by have := unset_set hw9 (by decide) hq4; rw [List.length_append, List.length_singleton]; omega), rfl, kr, kr, kr, kr, kr, kr, kr, kr, T311⟩
        ·
         skip
         refine W_exit ?_
         refine rx ?_
         refine exit_here ?_
         exact ⟨2 * unset ht2 + td2.length, by omega, ht2, td2, vt2, S2, (X2.ext U308).w, (by omega), rfl, kr, kr, kr, T308⟩
   ·
     skip
     refine W_exit ?_
     refine rx ?_
     refine exit_here (W_seq (W_region (L_c rfl rfl kr (works_ok) ?_)))
     rintro vw hw ew
     cases ew
     refine L_g 1 kr (L_nil (W_ret ?_))
     refine rr ?_
     refine done_of (v := .bool true) (.inl rfl) kr ?_
     rfl
end
end Go.Proofs.YtlgakeilplnfmaaGreatDoor
namespace Go.X
noncomputable section
open Go Go.RowKit
structure HeldC (k : Nat) (w : World) (v : Value) (n : Nat) (cs : List Value) : Prop where
 len : cs.length = n * k
 has : (v = .slice none 0 0 ∧ n = 0) ∨ ∃ a cap, v = .slice (some a) n cap ∧ n ≤ cap ∧ cap ≤ maxLen ∧ (0 < cap → a.spot = none ∧ a.block < w.heap.size) ∧
  ∀ i, i < cs.length → w.cell? ⟨a.block, a.off + i, none⟩ = cs[i]? ∧ w.frozen? ⟨a.block, a.off + i, none⟩ = false
end
end Go.X
namespace Go.Arm
noncomputable section
open Go Go.X Go.RowKit
theorem holdR {W : World} {φ : Phi} {h : AH} (r : R W φ h W) (hf : First h) {k n : Nat} {v : Value} {l lc : List Value} (hk0 : 0 < k) (H : HeldC k W v n lc) (hll : l.length = lc.length) (hlv : ∀ (i : Nat) (x y : Value), l[i]? = some x → lc[i]? = some y → VR φ x y) :
   ∃ v' φ' h', R W φ' h' W ∧ First h' ∧ Le φ φ' ∧ VR φ' v' v ∧ Sd h' k v' n l ∧ Sm Nix h h' ∧ ∃ a c, v' = .slice a n c ∧ n ≤ c ∧ c < open_ := by
 have bump : R W φ ⟨h.m, h.next + 1⟩ W := ⟨r.dom, r.low, r.inj, fun b i hi => ⟨(r.lt b i hi).1, Nat.lt_succ_of_lt (r.lt b i hi).2⟩, trivial, r.below⟩
 have smb : Sm Nix h ⟨h.m, h.next + 1⟩ := ⟨Nat.le_succ _, fun _ _ _ => rfl⟩
 rcases H.has with ⟨rfl, rfl⟩ | ⟨a, cap, rfl, hlc, hcm, hpos, hall⟩
 · have hl0 : l = [] := List.length_eq_zero_iff.1 (by rw [hll, H.len]; simp)
   subst hl0
   exact ⟨.slice none 0 0, φ, _, bump, hf, Le.refl φ, .nils 0 0, Sd.nil, smb, none, 0, rfl, Nat.le_refl _, by decide⟩
 · by_cases h0 : cap = 0
   · subst h0
     have hn0 : n = 0 := by omega
     subst hn0
     have hl0 : l = [] := List.length_eq_zero_iff.1 (by rw [hll, H.len]; simp)
     subst hl0
     exact ⟨.slice (some ⟨h.next, 0, none⟩) 0 0, φ, _, bump, hf, Le.refl φ, .slice0 _ _ _, ⟨(by simp), .inl ⟨rfl, _, _, rfl, (fun e => by cases e), fun q hq => by cases hq; exact Nat.lt_succ_self _⟩⟩, smb, _, 0, rfl, Nat.le_refl _, by decide⟩
   · obtain ⟨hs, hb⟩ := hpos (by omega)
     obtain ⟨bk, off, spot⟩ := a
     dsimp only at hs hb hall
     subst hs
     have hmax : maxLen < open_ := by decide
     have hopen : cap ≠ open_ := by omega
     by_cases hn0 : n = 0
     · subst hn0
       have hl0 : l = [] := List.length_eq_zero_iff.1 (by rw [hll, H.len]; simp)
       subst hl0
       have le : Le φ (fun b => if b = h.next then some (⟨bk, off, 0, 0, 0⟩ : Im) else φ b) := by
         intro b j hj
         have := (r.lt b j hj).2
         show (if b = h.next then _ else φ b) = some j
         rw [if_neg (by omega)]; exact hj
       have hget : ∀ b o, h.m.get b = some o → ∀ i, (if b = h.next then some (⟨bk, off, 0, 0, 0⟩ : Im) else φ b) = some i → h.m.get b = none ∨ φ b = some i ∨ b = h.next := by
         intro b o _ i hi
         by_cases e : b = h.next
         · exact .inr (.inr e)
         · rw [if_neg e] at hi; exact .inr (.inl hi)
       have hnone : h.m.get h.next = none ∨ ∃ o, h.m.get h.next = some o := by
         cases h.m.get h.next with
         | none => exact .inl rfl
         | some o => exact .inr ⟨o, rfl⟩
       have getm : ∀ b, (h.m.set h.next none).get b = if b = h.next then none else h.m.get b := fun b => T.get_set b
       refine ⟨.slice (some ⟨h.next, 0, none⟩) 0 cap, _, ⟨h.m.set h.next none, h.next + 1⟩, ⟨fun b i o hi ho => ?_, fun b i o hi ho hr => ?_, fun b b' i i' o o' hi hi' ho ho' hr hc => ?_, fun b i hi => ?_, trivial, r.below⟩, fun b o ho => ?_, le, ?_, ⟨(by simp), .inl ⟨rfl, _, _, rfl, (fun e => by cases e), fun q hq => by cases hq; exact Nat.lt_succ_self _⟩⟩, ⟨Nat.le_succ _, fun b hb _ => by show (h.m.set h.next none).get b = _; rw [getm, if_neg (by omega)]⟩, _, cap, rfl, by omega, by omega⟩
       · rw [getm] at ho
         by_cases e : b = h.next
         · rw [if_pos e] at ho; cases ho
         · rw [if_neg e] at ho hi; exact (r.dom b i o hi ho).mono le
       · rw [getm] at ho
         by_cases e : b = h.next
         · rw [if_pos e] at ho; cases ho
         · rw [if_neg e] at ho hi; exact r.low b i o hi ho hr
       · rw [getm] at ho
         by_cases e : b = h.next
         · rw [if_pos e] at ho; cases ho
         · rw [if_neg e] at ho; have := hf b o ho; rw [hr] at this; cases this
       · by_cases e : b = h.next
         · rw [if_pos e] at hi; cases hi; exact ⟨hb, by subst e; exact Nat.lt_succ_self _⟩
         · rw [if_neg e] at hi; exact ⟨(r.lt b i hi).1, Nat.lt_succ_of_lt (r.lt b i hi).2⟩
       · rw [getm] at ho
         by_cases e : b = h.next
         · rw [if_pos e] at ho; cases ho
         · rw [if_neg e] at ho; exact hf b o ho
       · have := VR.slice (φ := fun b => if b = h.next then some (⟨bk, off, 0, 0, 0⟩ : Im) else φ b) (a := ⟨h.next, 0, none⟩) (l := 0) (c := cap) ⟨bk, off, 0, 0, 0⟩ (if_pos rfl) rfl hopen
         simpa using this
     · have hl1 : 0 < l.length := by rw [hll, H.len]; exact Nat.mul_pos (by omega) hk0
       have hcell := (hall 0 (by omega)).1
       obtain ⟨arr, el, fz, hw⟩ : ∃ arr el fz, W.heap[bk]? = some (.cells arr el fz) := by
         unfold World.cell? at hcell
         split at hcell
         · rename_i e5; exact ⟨_, _, _, e5⟩
         · rw [List.getElem?_eq_getElem (by omega)] at hcell; cases hcell
       have hat : ∀ j, (hj : j < lc.length) → arr[j + off]? = some lc[j] := by
         intro j hj
         have := (hall j hj).1
         unfold World.cell? at this
         rw [hw] at this
         rw [List.getElem?_eq_getElem hj] at this
         rw [Nat.add_comm]; simpa using this
       have hsz : l.length + off ≤ arr.size := by
         have := (Array.getElem?_eq_some_iff.1 (hat (lc.length - 1) (by omega))).1
         omega
       have le : Le φ (fun b => if b = h.next then some (⟨bk, off, l.length, arr.size, 0⟩ : Im) else φ b) := by
         intro b j hj
         have := (r.lt b j hj).2
         show (if b = h.next then _ else φ b) = some j
         rw [if_neg (by omega)]; exact hj
       have getm : ∀ b, (h.m.set h.next (some (AObj.cells (T.fill l 0 .e) l.length 0 true))).get b = if b = h.next then some (AObj.cells (T.fill l 0 .e) l.length 0 true) else h.m.get b := fun b => T.get_set b
       refine ⟨.slice (some ⟨h.next, 0, none⟩) n cap, _, ⟨h.m.set h.next (some (AObj.cells (T.fill l 0 .e) l.length 0 true)), h.next + 1⟩, ⟨fun b i o hi ho => ?_, fun b i o hi ho hr => ?_, fun b b' i i' o o' hi hi' ho ho' hr hc => ?_, fun b i hi => ?_, trivial, r.below⟩, fun b o ho => ?_, le, ?_, ⟨by rw [hll, H.len], .inr ⟨h.next, 0, cap, _, l.length, 0, true, by omega, h0, rfl, Nat.lt_succ_self _, by show (h.m.set h.next _).get h.next = _; rw [getm, if_pos rfl], by rw [← H.len, ← hll]; omega, fun j hj => ?_⟩⟩, ⟨Nat.le_succ _, fun b hb _ => by show (h.m.set h.next _).get b = _; rw [getm, if_neg (by omega)]⟩, _, cap, rfl, by omega, by omega⟩
       · rw [getm] at ho
         by_cases e : b = h.next
         · rw [if_pos e] at ho hi; cases ho; cases hi
           refine ⟨rfl, rfl, trivial, arr, el, ⟨fz, hw, (fun e => by cases e), fun j hj => ?_⟩, rfl, hsz, fun j hj => ?_⟩
           · have := (hall j (by omega)).2
             rw [Nat.add_comm] at this; exact this
           · refine ⟨l[j], lc[j]'(by omega), ?_, hat j (by omega), (hlv j _ _ (List.getElem?_eq_getElem hj) (List.getElem?_eq_getElem (by omega))).mono le⟩
             rw [T.get_fill, if_pos (by omega)]
             simp [hj]
         · rw [if_neg e] at ho hi; exact (r.dom b i o hi ho).mono le
       · rw [getm] at ho
         by_cases e : b = h.next
         · rw [if_pos e] at ho; cases ho; cases hr
         · rw [if_neg e] at ho hi; exact r.low b i o hi ho hr
       · rw [getm] at ho
         by_cases e : b = h.next
         · rw [if_pos e] at ho; cases ho; cases hr
         · rw [if_neg e] at ho; have := hf b o ho; rw [hr] at this; cases this
       · by_cases e : b = h.next
         · rw [if_pos e] at hi; cases hi; exact ⟨hb, by subst e; exact Nat.lt_succ_self _⟩
         · rw [if_neg e] at hi; exact ⟨(r.lt b i hi).1, Nat.lt_succ_of_lt (r.lt b i hi).2⟩
       · rw [getm] at ho
         by_cases e : b = h.next
         · rw [if_pos e] at ho; cases ho; rfl
         · rw [if_neg e] at ho; exact hf b o ho
       · have := VR.slice (φ := fun b => if b = h.next then some (⟨bk, off, l.length, arr.size, 0⟩ : Im) else φ b) (a := ⟨h.next, 0, none⟩) (l := n) (c := cap) ⟨bk, off, l.length, arr.size, 0⟩ (if_pos rfl) rfl hopen
         simpa using this
       · rw [T.get_fill, if_pos (by omega)]
         simp
end
end Go.Arm
