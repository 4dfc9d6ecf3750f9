/- A part of the proof. -/
import Derived.Test.YtdaedcoolcicoaaPrf
import Derived.Test.YtdaedcoolcicoaaCoreU
namespace Go.Arm
open Go Go.RowKit Go.Proofs

theorem tyRaw : Ty Try.prog 22 RawV := ⟨by kernel_rfl, by kernel_rfl⟩
theorem tyzRaw : TyZ Try.prog 22 RawV 24 (.slice none 0 0) := ⟨tyRaw, by kernel_rfl, by kernel_rfl, by show 0 < 1; decide⟩
theorem flatU8 : Flat U8 := fun _ _ _ _ h => h
/-- A list whose elements are multiplied. -/
def scaleG (m : U8 → Option U8) : Nat → Int → List U8 → Option (List U8)
  | 0, _, _ => none
  | k + 1, i, l => if decide (i < (l.length : Int)) then
    Option.bind (idx l i) fun x => Option.bind (m x) fun z => chk (inR (i + 1)) <| scaleG m k (i + 1) (l.set i.toNat z)
    else some l
/-- A list, multiplied, is added to another one, over its length. -/
def addG (m : U8 → Option U8) (l : List U8) : Nat → Int → List U8 → Option (List U8)
  | 0, _, _ => none
  | k + 1, i, to => if decide (i < (l.length : Int)) then
    Option.bind (idx l i) fun y => Option.bind (idx to i) fun x => Option.bind (m y) fun z => chk (inR (i + 1)) <| addG m l k (i + 1) (to.set i.toNat ⟨xorK .u8 x.n z.n⟩)
    else some to
/-- The same, over the other one's length. -/
def addR (m : U8 → Option U8) (l : List U8) : Nat → Int → List U8 → Option (List U8)
  | 0, _, _ => none
  | k + 1, i, to => if decide (i < (to.length : Int)) then
    Option.bind (idx l i) fun y => Option.bind (idx to i) fun x => Option.bind (m y) fun z => chk (inR (i + 1)) <| addR m l k (i + 1) (to.set i.toNat ⟨xorK .u8 x.n z.n⟩)
    else some to
/-- What a block of own slices may be read beside another one. -/
theorem V_own {s : St} {B : Nat} {E : TypeId} {v u : Value} {xs ys : List U8} (h : V s v xs) (k : ArrS s B E u ys) : xs ≠ [] → ∀ b, inB v b → ¬ own u b := fun hne b hb hu => by
  have h1 := V_claimed h hne hb
  rw [k.unclaimed hu] at h1; omega

theorem check_field_scale_ok (N : Nat) (s0 : St) (w0 : Value) (a0 : Field) (h0 : Ptr s0 w0 a0) (B : Nat) (w1 : Value) (a1 : List U8) (h1 : ArrS s0 B 5 w1 a1) (a2 : U8) (r : List U8) (hr : scaleG (fun x => check_field_mul N a0 x a2) N 0 a1 = some r) :
    Calls Try.prog 69 #[w0, w1, .int .u8 a2.n] s0.w (RetM (own w1) s0 fun _ s => ArrS s B 5 w1 r) := by
  refine Calls_of (n := 23) (args := [w0, w1, .int .u8 a2.n]) Try.func69 rfl rfl (by simp) ?_
  refine W_seq ?_
  refine W_region ?_
  refine L_move (rfl : _ = w1) (by decide) ?_
  refine L_lenS Try.underlying22 (rfl : _ = w1) h1 (by decide) ?_
  refine L_move (rfl : _ = Value.int .i64 0) (by decide) ?_
  refine L_nil ?_
  refine then_n ?_
  refine W_cut (fun f w => ∃ (s : St), s.w = w ∧ Tch (own w1) s0 s ∧ ArrS s B 5 w1 r) ?_ ?_
  · refine W_block ?_
    refine W_loop (fun m f w => ∃ (s : St) (i : Int) (l : List U8), s.w = w ∧ Tch (own w1) s0 s ∧ ArrS s B 5 w1 l ∧ l.length = a1.length ∧ scaleG (fun x => check_field_mul N a0 x a2) m i l = some r ∧ f 0 = w0 ∧ f 1 = w1 ∧ f 2 = Value.int .u8 a2.n ∧ f 8 = w1 ∧ f 9 = Value.int .i64 a1.length ∧ f 10 = Value.int .i64 i) N ⟨s0, 0, a1, rfl, Tch.refl _ _, h1, rfl, hr, rfl, rfl, rfl, rfl, rfl, rfl⟩ ?_
    rintro m f w ⟨s, i, l, rfl, hE, hA, hl, hr, g0, g1, g2, g8, g9, gi⟩
    cases m with
    | zero => cases hr
    | succ m =>
      rw [scaleG] at hr
      refine W_seq ?_
      refine W_region ?_
      refine L_lss gi g9 (by decide) ?_
      refine L_nil ?_
      refine then_n ?_
      refine W_seq ?_
      refine W_cond _ (rfl : _ = Value.bool (decide (i < (a1.length : Int)))) (fun hb => ?_) (fun hb => ?_)
      · rw [← hl] at hb
        have hr := ite_t hb hr
        refine W_skip ?_
        refine then_n ?_
        refine W_seq ?_
        refine W_block ?_
        obtain ⟨x, hx, hr⟩ := bind_some hr
        obtain ⟨z, hz, hr⟩ := bind_some hr
        obtain ⟨hc, hr⟩ := chk_some hr
        refine W_seq ?_
        refine W_region ?_
        refine L_move gi (by decide) ?_
        refine L_indexS Try.underlying22 ty5.inf g8 gi hA hx (by decide) ?_
        refine L_loadS ty5 (rfl : _ = elemP w1 i 1 0) hA hx rfl (by decide) ?_
        intro u hu
        obtain rfl := hu.u8
        refine L_assign (rfl : _ = Value.int .i64 i) (by decide) ?_
        refine L_assign (rfl : _ = Value.int .u8 x.n) (by decide) ?_
        refine L_nil ?_
        refine then_n ?_
        refine W_region ?_
        refine L_move g1 (by decide) ?_
        refine L_move (rfl : _ = Value.int .i64 i) (by decide) ?_
        refine L_move g0 (by decide) ?_
        refine L_move (rfl : _ = Value.int .u8 x.n) (by decide) ?_
        refine L_move g2 (by decide) ?_
        refine L_calls cal89 (args3 (rfl : _ = w0) (rfl : _ = Value.int .u8 x.n) (rfl : _ = Value.int .u8 a2.n)) (check_field_mul_ok N s w0 a0 (h0.mono hE.le) x a2 z hz) (by decide) ?_
        intro v s1 e1 hv
        obtain rfl := hv.u8
        refine L_indexS Try.underlying22 ty5.inf (rfl : _ = w1) (rfl : _ = Value.int .i64 i) (hA.ext e1) hx (by decide) ?_
        refine L_storeS ty5 (rfl : _ = elemP w1 i 1 0) (rfl : _ = Value.int .u8 z.n) Vu8 (hA.ext e1) hx rfl ?_
        intro s2 t2 hA2
        have hE2 : Tch (own w1) s0 s2 := Tch.trans (hE.ext e1) t2 (fun _ h => .inl h)
        refine L_nil ?_
        refine block_n ?_
        refine then_n ?_
        refine W_region ?_
        refine L_add gi (rfl : _ = Value.int .i64 (1)) hc (by decide) ?_
        refine L_move (rfl : _ = Value.int .i64 (i + 1)) (by decide) ?_
        refine L_nil ?_
        exact then_n ⟨m, Nat.lt_succ_self _, s2, i + 1, l.set i.toNat z, rfl, hE2, hA2, by simpa using hl, hr, g0, g1, g2, g8, g9, rfl⟩
      · rw [← hl] at hb
        have hr := ite_f hb hr
        refine W_exit ?_
        refine then_x ?_
        refine then_x ?_
        refine block_here ?_
        obtain rfl := Option.some.inj hr
        exact ⟨s, rfl, hE, hA⟩
  · rintro f w ⟨s, rfl, hE, hA⟩
    exact done0 (Or.inr rfl) Try.results69 ⟨_, s, rfl, rfl, hE, hA⟩

theorem check_field_add_ok (N : Nat) (s0 : St) (w0 : Value) (a0 : Field) (h0 : Ptr s0 w0 a0) (B : Nat) (w1 : Value) (a1 : List U8) (h1 : ArrS s0 B 5 w1 a1) (w2 : Value) (a2 : List U8) (h2 : Rd s0 w2 a2)
    (hd : a2 ≠ [] → ∀ b, inB w2 b → ¬ own w1 b) (a3 : U8) (r : List U8) (hr : addG (fun y => check_field_mul N a0 y a3) a2 N 0 a1 = some r) :
    Calls Try.prog 70 #[w0, w1, w2, .int .u8 a3.n] s0.w (RetM (own w1) s0 fun _ s => ArrS s B 5 w1 r) := by
  refine Calls_of (n := 28) (args := [w0, w1, w2, .int .u8 a3.n]) Try.func70 rfl rfl (by simp) ?_
  refine W_seq ?_
  refine W_region ?_
  refine L_move (rfl : _ = w2) (by decide) ?_
  refine L_lenRd Try.underlying22 (rfl : _ = w2) h2 (by decide) ?_
  refine L_move (rfl : _ = Value.int .i64 0) (by decide) ?_
  refine L_nil ?_
  refine then_n ?_
  refine W_cut (fun f w => ∃ (s : St), s.w = w ∧ Tch (own w1) s0 s ∧ ArrS s B 5 w1 r) ?_ ?_
  · refine W_block ?_
    refine W_loop (fun m f w => ∃ (s : St) (i : Int) (l : List U8), s.w = w ∧ Tch (own w1) s0 s ∧ ArrS s B 5 w1 l ∧ Rd s w2 a2 ∧ addG (fun y => check_field_mul N a0 y a3) a2 m i l = some r ∧ f 0 = w0 ∧ f 1 = w1 ∧ f 3 = Value.int .u8 a3.n ∧ f 10 = w2 ∧ f 11 = Value.int .i64 a2.length ∧ f 12 = Value.int .i64 i) N ⟨s0, 0, a1, rfl, Tch.refl _ _, h1, h2, hr, rfl, rfl, rfl, rfl, rfl, rfl⟩ ?_
    rintro m f w ⟨s, i, l, rfl, hE, hA, hR, hr, g0, g1, g3, g10, g11, gi⟩
    cases m with
    | zero => cases hr
    | succ m =>
      rw [addG] at hr
      refine W_seq ?_
      refine W_region ?_
      refine L_lss gi g11 (by decide) ?_
      refine L_nil ?_
      refine then_n ?_
      refine W_seq ?_
      refine W_cond _ (rfl : _ = Value.bool (decide (i < (a2.length : Int)))) (fun hb => ?_) (fun hb => ?_)
      · have hr := ite_t hb hr
        refine W_skip ?_
        refine then_n ?_
        refine W_seq ?_
        refine W_block ?_
        obtain ⟨y, hy, hr⟩ := bind_some hr
        obtain ⟨x, hx, hr⟩ := bind_some hr
        obtain ⟨z, hz, hr⟩ := bind_some hr
        obtain ⟨hc, hr⟩ := chk_some hr
        refine W_seq ?_
        refine W_region ?_
        refine L_move gi (by decide) ?_
        refine L_indexRd Try.underlying22 ty5.inf g10 gi hR hy (by decide) ?_
        intro q hq
        refine L_loadCU Try.underlying5 (rfl : _ = q) hq (by decide) ?_
        refine L_assign (rfl : _ = Value.int .i64 i) (by decide) ?_
        refine L_assign (rfl : _ = Value.int .u8 y.n) (by decide) ?_
        refine L_nil ?_
        refine then_n ?_
        refine W_cut (fun f w => ∃ (s3 : St), s3.w = w ∧ Tch (own w1) s s3 ∧ ArrS s3 B 5 w1 (l.set i.toNat ⟨xorK .u8 x.n z.n⟩) ∧ f 0 = w0 ∧ f 1 = w1 ∧ f 3 = Value.int .u8 a3.n ∧ f 10 = w2 ∧ f 11 = Value.int .i64 a2.length ∧ f 12 = Value.int .i64 i) ?_ ?_
        · have e0 := Ext.drew s
          refine W_seqd2 3 7 [0, 1, 2, 3, 4, 5, 6, 7, 8, 9, 10] [0, 1, 2, 4, 5, 6, 7, 3, 8, 9, 10] mixed (by kernel_rfl) rfl rfl ?_ ?_
          · refine L_move g1 (by decide) ?_
            refine L_move (rfl : _ = Value.int .i64 i) (by decide) ?_
            refine L_indexS Try.underlying22 ty5.inf (rfl : _ = w1) (rfl : _ = Value.int .i64 i) (hA.ext e0) hx (by decide) ?_
            refine L_loadS ty5 (rfl : _ = elemP w1 i 1 0) (hA.ext e0) hx rfl (by decide) ?_
            intro u hu
            obtain rfl := hu.u8
            refine L_move g0 (by decide) ?_
            refine L_move (rfl : _ = Value.int .u8 y.n) (by decide) ?_
            refine L_move g3 (by decide) ?_
            refine L_calls cal89 (args3 (rfl : _ = w0) (rfl : _ = Value.int .u8 y.n) (rfl : _ = Value.int .u8 a3.n)) (check_field_mul_ok N _ w0 a0 (h0.mono (hE.ext e0).le) y a3 z hz) (by decide) ?_
            intro v s1 e1 hv
            obtain rfl := hv.u8
            have e2 := e0.trans e1
            refine L_xorK (rfl : _ = Value.int .u8 x.n) (rfl : _ = Value.int .u8 z.n) (by decide) ?_
            refine L_indexS Try.underlying22 ty5.inf (rfl : _ = w1) (rfl : _ = Value.int .i64 i) (hA.ext e2) hx (by decide) ?_
            refine L_storeS (z := (⟨xorK .u8 x.n z.n⟩ : U8)) ty5 (rfl : _ = elemP w1 i 1 0) (rfl : _ = Value.int .u8 (xorK .u8 x.n z.n)) Vu8 (hA.ext e2) hx rfl ?_
            intro s3 t3 hA3
            have t4 : Tch (own w1) s s3 := Tch.trans (Ext.to e2) t3 (fun _ h => .inl h)
            exact L_nil ⟨rfl, then_n ⟨s3, rfl, t4, hA3, g0, g1, g3, g10, g11, gi⟩⟩
          · refine L_move g1 (by decide) ?_
            refine L_move (rfl : _ = Value.int .i64 i) (by decide) ?_
            refine L_indexS Try.underlying22 ty5.inf (rfl : _ = w1) (rfl : _ = Value.int .i64 i) (hA.ext e0) hx (by decide) ?_
            refine L_move g0 (by decide) ?_
            refine L_move (rfl : _ = Value.int .u8 y.n) (by decide) ?_
            refine L_move g3 (by decide) ?_
            refine L_calls cal89 (args3 (rfl : _ = w0) (rfl : _ = Value.int .u8 y.n) (rfl : _ = Value.int .u8 a3.n)) (check_field_mul_ok N _ w0 a0 (h0.mono (hE.ext e0).le) y a3 z hz) (by decide) ?_
            intro v s1 e1 hv
            obtain rfl := hv.u8
            have e2 := e0.trans e1
            refine L_loadS ty5 (rfl : _ = elemP w1 i 1 0) (hA.ext e2) hx rfl (by decide) ?_
            intro u hu
            obtain rfl := hu.u8
            refine L_xorK (rfl : _ = Value.int .u8 x.n) (rfl : _ = Value.int .u8 z.n) (by decide) ?_
            refine L_indexS Try.underlying22 ty5.inf (rfl : _ = w1) (rfl : _ = Value.int .i64 i) (hA.ext e2) hx (by decide) ?_
            refine L_storeS (z := (⟨xorK .u8 x.n z.n⟩ : U8)) ty5 (rfl : _ = elemP w1 i 1 0) (rfl : _ = Value.int .u8 (xorK .u8 x.n z.n)) Vu8 (hA.ext e2) hx rfl ?_
            intro s3 t3 hA3
            have t4 : Tch (own w1) s s3 := Tch.trans (Ext.to e2) t3 (fun _ h => .inl h)
            exact L_nil ⟨rfl, then_n ⟨s3, rfl, t4, hA3, g0, g1, g3, g10, g11, gi⟩⟩
        · rintro f w ⟨s3, rfl, t3, hA3, g0, g1, g3, g10, g11, gi⟩
          refine block_n ?_
          refine then_n ?_
          refine W_region ?_
          refine L_add gi (rfl : _ = Value.int .i64 (1)) hc (by decide) ?_
          refine L_move (rfl : _ = Value.int .i64 (i + 1)) (by decide) ?_
          refine L_nil ?_
          exact then_n ⟨m, Nat.lt_succ_self _, s3, i + 1, _, rfl, Tch.trans hE t3 (fun _ h => .inl h), hA3, hR.tch t3 hd, hr, g0, g1, g3, g10, g11, rfl⟩
      · have hr := ite_f hb hr
        refine W_exit ?_
        refine then_x ?_
        refine then_x ?_
        refine block_here ?_
        obtain rfl := Option.some.inj hr
        exact ⟨s, rfl, hE, hA⟩
  · rintro f w ⟨s, rfl, hE, hA⟩
    exact done0 (Or.inr rfl) Try.results70 ⟨_, s, rfl, rfl, hE, hA⟩

/-- The sum of blocks, each multiplied. -/
def blockL (N : Nat) (a0 : Field) (data : List (List U8)) (row : List U8) : Nat → Int → List U8 → Option (List U8)
  | 0, _, _ => none
  | k + 1, i, out => if decide (i < (row.length : Int)) then
    Option.bind (idx row i) fun y => Option.bind (idx data i) fun d => Option.bind (addG (fun z => check_field_mul N a0 z y) d N 0 out) fun x => chk (inR (i + 1)) <| blockL N a0 data row k (i + 1) x
    else some out
def check_field_block (N : Nat) (a0 : Field) (a1 : Int) (a2 : List (List U8)) : Option (List U8) :=
  Option.bind (idx a2 0) fun d => chk ((0 : Int) ≤ (d.length : Int) ∧ (1 : Int) * (d.length : Int) ≤ 281474976710656 ∧ (d.length : Int) ≤ 9223372036854775807) <|
  Option.bind (check_field_row N a0 a1 (a2.length : Int)) fun row => blockL N a0 a2 row N 0 (List.replicate ((d.length : Int)).toNat (⟨0⟩ : U8))
theorem check_field_block_ok (N : Nat) (s0 : St) (w0 : Value) (a0 : Field) (h0 : Ptr s0 w0 a0) (a1 : Int) (w2 : Value) (a2 : List (List U8)) (h2 : V s0 w2 a2) (r : List U8) (hr : check_field_block N a0 a1 a2 = some r) :
    Calls Try.prog 39 #[w0, .int .i64 a1, w2] s0.w (Ret s0 fun v s => V s v r) := by
  unfold check_field_block at hr
  refine Calls_of (n := 36) (args := [w0, .int .i64 a1, w2]) Try.func39 rfl rfl (by simp) ?_
  refine W_seq ?_
  refine W_region ?_
  refine L_assign (rfl : _ = Value.slice none 0 0) (by decide) ?_
  refine L_nil ?_
  refine then_n ?_
  refine W_seq ?_
  refine W_region ?_
  obtain ⟨d, hd, hr⟩ := bind_some hr
  obtain ⟨hc, hr⟩ := chk_some hr
  obtain ⟨row, hrow, hr⟩ := bind_some hr
  refine L_move (rfl : _ = w2) (by decide) ?_
  refine L_index Try.underlying24 ty22.inf (rfl : _ = w2) h2 (rfl : _ = Value.int .i64 0) hd (by decide) ?_
  intro p1 hp1
  refine L_load ty22 (rfl : _ = p1) hp1 (by decide) ?_
  intro v1 hv1
  refine L_len Try.underlying22 (rfl : _ = v1) hv1 (by decide) ?_
  refine L_makeArr (x0 := (⟨0⟩ : U8)) Try.underlying22 tyz5 (rfl : _ = Value.int .i64 (d.length : Int)) hc.1 hc.2.1 hc.2.2 (fun _ => rfl) (by decide) ?_
  intro s1 b1 e1 hb1 hA0
  have hA1 := hA0.toS hb1
  generalize hvo : Value.slice (some ⟨b1, 0, none⟩) ((d.length : Int)).toNat ((d.length : Int)).toNat = vo at hA1 ⊢
  refine L_assign (rfl : _ = vo) (by decide) ?_
  refine L_nil ?_
  refine then_n ?_
  refine W_seq ?_
  refine W_seq ?_
  refine W_region ?_
  refine L_move (rfl : _ = w0) (by decide) ?_
  refine L_move (rfl : _ = Value.int .i64 a1) (by decide) ?_
  refine L_move (rfl : _ = w2) (by decide) ?_
  refine L_len Try.underlying24 (rfl : _ = w2) h2 (by decide) ?_
  refine L_calls cal65 (args3 (rfl : _ = w0) (rfl : _ = Value.int .i64 a1) (rfl : _ = Value.int .i64 (a2.length : Int))) (check_field_row_ok N s1 w0 a0 (h0.mono e1.le) a1 (a2.length : Int) row hrow) (by decide) ?_
  intro v19 s2 e2 hv19
  have hA2 := hA1.ext e2
  have E2 : Ext s0 s2 := e1.trans e2
  refine L_len Try.underlying22 (rfl : _ = v19) hv19 (by decide) ?_
  refine L_move (rfl : _ = Value.int .i64 0) (by decide) ?_
  refine L_nil ?_
  refine then_n ?_
  refine W_cut (fun f w => ∃ (s : St), s.w = w ∧ Ext s0 s ∧ ArrS s s0.w.heap.size 5 vo r ∧ f 7 = vo) ?_ ?_
  · refine W_block ?_
    refine W_loop (fun m f w => ∃ (s : St) (i : Int) (l : List U8), s.w = w ∧ Ext s0 s ∧ ArrS s s0.w.heap.size 5 vo l ∧ V s v19 row ∧ blockL N a0 a2 row m i l = some r ∧ f 0 = w0 ∧ f 2 = w2 ∧ f 7 = vo ∧ f 19 = v19 ∧ f 20 = Value.int .i64 (row.length : Int) ∧ f 21 = Value.int .i64 i) N ⟨s2, 0, _, rfl, E2, hA2, hv19, hr, rfl, rfl, rfl, rfl, rfl, rfl⟩ ?_
    rintro m f w ⟨s, i, l, rfl, hE, hA, hR, hr, g0, g2, g7, g19, g20, gi⟩
    cases m with
    | zero => cases hr
    | succ m =>
      rw [blockL] at hr
      refine W_seq ?_
      refine W_region ?_
      refine L_lss gi g20 (by decide) ?_
      refine L_nil ?_
      refine then_n ?_
      refine W_seq ?_
      refine W_cond _ (rfl : _ = Value.bool (decide (i < (row.length : Int)))) (fun hb => ?_) (fun hb => ?_)
      · have hr := ite_t hb hr
        refine W_skip ?_
        refine then_n ?_
        refine W_seq ?_
        refine W_block ?_
        obtain ⟨y, hy, hr⟩ := bind_some hr
        obtain ⟨e, he, hr⟩ := bind_some hr
        obtain ⟨x, hx, hr⟩ := bind_some hr
        obtain ⟨hc, hr⟩ := chk_some hr
        refine W_seq ?_
        refine W_region ?_
        refine L_move gi (by decide) ?_
        refine L_index Try.underlying22 ty5.inf g19 hR gi hy (by decide) ?_
        intro q hq
        refine L_load_u8 ty5 (rfl : _ = q) hq (by decide) ?_
        refine L_assign (rfl : _ = Value.int .i64 i) (by decide) ?_
        refine L_assign (rfl : _ = Value.int .u8 y.n) (by decide) ?_
        refine L_nil ?_
        refine then_n ?_
        refine W_region ?_
        refine L_move g0 (by decide) ?_
        refine L_move g7 (by decide) ?_
        refine L_move g2 (by decide) ?_
        refine L_move (rfl : _ = Value.int .i64 i) (by decide) ?_
        refine L_index Try.underlying24 ty22.inf (rfl : _ = w2) (h2.mono hE.le) (rfl : _ = Value.int .i64 i) he (by decide) ?_
        intro p3 hp3
        refine L_load ty22 (rfl : _ = p3) hp3 (by decide) ?_
        intro v3 hv3
        refine L_move (rfl : _ = Value.int .u8 y.n) (by decide) ?_
        refine L_calls_mut cal70 (args4 (rfl : _ = w0) (rfl : _ = vo) (rfl : _ = v3) (rfl : _ = Value.int .u8 y.n)) (check_field_add_ok N s w0 a0 (h0.mono hE.le) s0.w.heap.size vo l hA v3 e (Rd.of_V hv3) (V_own hv3 hA) y x hx) (by decide) ?_
        intro v4 s3 t3 hA3
        have hE3 : Ext s0 s3 := Tch.trans hE t3 (fun k hk => .inr (hA.lt hk).1)
        refine L_nil ?_
        refine block_n ?_
        refine then_n ?_
        refine W_region ?_
        refine L_add gi (rfl : _ = Value.int .i64 (1)) hc (by decide) ?_
        refine L_move (rfl : _ = Value.int .i64 (i + 1)) (by decide) ?_
        refine L_nil ?_
        exact then_n ⟨m, Nat.lt_succ_self _, s3, i + 1, x, rfl, hE3, hA3, hR.mono t3.le, hr, g0, g2, g7, g19, g20, rfl⟩
      · have hr := ite_f hb hr
        refine W_exit ?_
        refine then_x ?_
        refine then_x ?_
        refine block_here ?_
        obtain rfl := Option.some.inj hr
        exact then_n ⟨s, rfl, hE, hA, g7⟩
  · rintro f w ⟨s, rfl, hE, hA, g7⟩
    refine then_n ?_
    refine W_seq ?_
    refine W_region ?_
    refine L_move g7 (by decide) ?_
    refine L_assign (rfl : _ = vo) (by decide) ?_
    refine L_nil ?_
    refine then_n ?_
    refine W_ret ?_
    obtain ⟨s4, e4, t4, hv4⟩ := hA.freeze
    have hE4 : Ext s0 s4 := Tch.trans hE t4 (fun k hk => .inr (hA.lt hk).1)
    exact done1 (Or.inl rfl) Try.results39 rfl ⟨_, s4, rfl, e4, hE4, hv4⟩

def swapG (R : List (List U8)) (p c : Int) : Option (List (List U8)) :=
  Option.bind (idx R p) fun x => Option.bind (idx R c) fun y => some ((R.set c.toNat x).set p.toNat y)
def initG (N : Nat) (a0 : Field) (ws : List Int) (data : List (List U8)) (k : Int) : Nat → Int → List (List U8) → List (List U8) → Option (List (List U8) × List (List U8))
  | 0, _, _, _ => none
  | m + 1, i, R, L => if decide (i < (ws.length : Int)) then
    Option.bind (idx ws i) fun w => Option.bind (check_field_row N a0 w k) fun x => Option.bind (idx data i) fun d => Option.bind (slices_Clone_Lbyte_byte N d) fun c =>
    Option.bind (idx R i) fun _ => Option.bind (idx L i) fun _ => chk (inR (i + 1)) <| initG N a0 ws data k m (i + 1) (R.set i.toNat x) (L.set i.toNat c)
    else some (R, L)
def elimG (N : Nat) (a0 : Field) (c k : Int) : Nat → Int → List (List U8) → List (List U8) → Option (List (List U8) × List (List U8))
  | 0, _, _, _ => none
  | m + 1, r, R, L => if decide (r < k) then
    Option.bind (if !decide (r = c) then Option.bind (idx R r) fun x => Option.bind (idx x c) fun e => some (!decide (e.n = 0)) else some false) fun b =>
    if b then
      Option.bind (idx R r) fun x => Option.bind (idx x c) fun e => Option.bind (idx R c) fun z => Option.bind (addG (fun y => check_field_mul N a0 y e) z N 0 x) fun x' =>
      Option.bind (idx L r) fun y => Option.bind (idx L c) fun u => Option.bind (addG (fun q => check_field_mul N a0 q e) u N 0 y) fun y' =>
      chk (inR (r + 1)) <| elimG N a0 c k m (r + 1) (R.set r.toNat x') (L.set r.toNat y')
    else chk (inR (r + 1)) <| elimG N a0 c k m (r + 1) R L
    else some (R, L)
def stepG (N : Nat) (a0 : Field) (k : Int) : Nat → Int → List (List U8) → List (List U8) → Option (List (List U8))
  | 0, _, _, _ => none
  | m + 1, c, R, L => if decide (c < k) then
    Option.bind (cut R c (R.length : Int)) fun T => Option.bind (slices_IndexFunc_LLbyte_Lbyte N T (fun x => check_field_solve_1 N x c)) fun q => chk (inR (c + q)) <|
    Option.bind (swapG R (c + q) c) fun R1 => Option.bind (swapG L (c + q) c) fun L1 =>
    Option.bind (idx R1 c) fun x => Option.bind (idx x c) fun e => Option.bind (check_field_inverse N a0 e) fun e' =>
    Option.bind (scaleG (fun y => check_field_mul N a0 y e') N 0 x) fun x' =>
    Option.bind (idx L1 c) fun y => Option.bind (scaleG (fun z => check_field_mul N a0 z e') N 0 y) fun y' =>
    Option.bind (elimG N a0 c k N 0 (R1.set c.toNat x') (L1.set c.toNat y')) fun o => chk (inR (c + 1)) <| stepG N a0 k m (c + 1) o.1 o.2
    else some L
def check_field_solve (N : Nat) (a0 : Field) (a1 : List Int) (a2 : List (List U8)) : Option (List (List U8)) :=
  chk ((0 : Int) ≤ (a1.length : Int) ∧ (24 : Int) * (a1.length : Int) ≤ 281474976710656 ∧ (a1.length : Int) ≤ 9223372036854775807) <|
  Option.bind (initG N a0 a1 a2 (a1.length : Int) N 0 (List.replicate ((a1.length : Int)).toNat []) (List.replicate ((a1.length : Int)).toNat [])) fun o => stepG N a0 (a1.length : Int) N 0 o.1 o.2

set_option maxRecDepth 4000 in
theorem check_field_solve_ok (N : Nat) (s0 : St) (w0 : Value) (a0 : Field) (h0 : Ptr s0 w0 a0) (w1 : Value) (a1 : List Int) (h1 : V s0 w1 a1) (w2 : Value) (a2 : List (List U8)) (h2 : V s0 w2 a2) (r : List (List U8)) (hr : check_field_solve N a0 a1 a2 = some r) :
    Calls Try.prog 38 #[w0, w1, w2] s0.w (Ret s0 fun v s => V s v r) := by
  unfold check_field_solve at hr
  obtain ⟨hc, hr⟩ := chk_some hr
  obtain ⟨o1, ho1, hr⟩ := bind_some hr
  refine Calls_of (n := 157) (args := [w0, w1, w2]) Try.func38 rfl rfl (by simp) ?_
  refine W_seq ?_
  refine W_region ?_
  refine L_assign (rfl : _ = Value.slice none 0 0) (by decide) ?_
  refine L_nil ?_
  refine then_n ?_
  refine W_seq ?_
  refine W_region ?_
  refine L_move (rfl : _ = w1) (by decide) ?_
  refine L_len Try.underlying40 (rfl : _ = w1) h1 (by decide) ?_
  refine L_assign (rfl : _ = Value.int .i64 (a1.length : Int)) (by decide) ?_
  refine L_nil ?_
  refine then_n ?_
  refine W_seq ?_
  refine W_cut (fun f w => ∃ (s : St) (vR vL : Value) (vsR vsL : List RawV), s.w = w ∧ Ext s0 s ∧ Two s s0.w.heap.size 5 22 vR vsR (List.replicate ((a1.length : Int)).toNat []) vL vsL (List.replicate ((a1.length : Int)).toNat []) ∧ f 0 = w0 ∧ f 1 = w1 ∧ f 2 = w2 ∧ f 7 = Value.int .i64 (a1.length : Int) ∧ f 8 = vR ∧ f 9 = vL) ?_ ?_
  · refine W_seqd2 1 3 [0, 1, 2, 3, 4, 5] [0, 2, 3, 1, 4, 5] mixed (by kernel_rfl) rfl rfl ?_ ?_
    · refine L_move (rfl : _ = Value.int .i64 (a1.length : Int)) (by decide) ?_
      refine L_makeArr (x0 := (⟨.slice none 0 0⟩ : RawV)) Try.underlying24 tyzRaw (rfl : _ = Value.int .i64 (a1.length : Int)) hc.1 hc.2.1 hc.2.2 (fun _ => ⟨rfl, rfl⟩) (by decide) ?_
      intro s1 b1 e1 hb1 hA1
      refine L_move (rfl : _ = Value.int .i64 (a1.length : Int)) (by decide) ?_
      refine L_makeArr (x0 := (⟨.slice none 0 0⟩ : RawV)) Try.underlying24 tyzRaw (rfl : _ = Value.int .i64 (a1.length : Int)) hc.1 hc.2.1 hc.2.2 (fun _ => ⟨rfl, rfl⟩) (by decide) ?_
      intro s2 b2 e2 hb2 hA2
      refine L_assign (rfl : _ = Value.slice (some ⟨b1, 0, none⟩) ((a1.length : Int)).toNat ((a1.length : Int)).toNat) (by decide) ?_
      refine L_assign (rfl : _ = Value.slice (some ⟨b2, 0, none⟩) ((a1.length : Int)).toNat ((a1.length : Int)).toNat) (by decide) ?_
      have hE := (Ext.drew s0).trans (e1.trans e2)
      have hs0 := (Ext.drew s0).size
      have hs1 := e1.size
      have hl1 := hA1.lt
      have m1 : Mat s2 s0.w.heap.size 5 22 _ _ _ := Mat.init (hA1.ext e2) (Nat.le_trans hs0 hb1)
      have m2 : Mat s2 s0.w.heap.size 5 22 _ _ _ := Mat.init hA2 (Nat.le_trans (Nat.le_trans hs0 hs1) hb2)
      exact L_nil ⟨rfl, then_n ⟨s2, _, _, _, _, rfl, hE, ⟨m1, m2, fun b hb hb2 => by have := foot_init hb; have := foot_init hb2; omega⟩, rfl, rfl, rfl, rfl, rfl, rfl⟩⟩
    · refine L_move (rfl : _ = Value.int .i64 (a1.length : Int)) (by decide) ?_
      refine L_move (rfl : _ = Value.int .i64 (a1.length : Int)) (by decide) ?_
      refine L_makeArr (x0 := (⟨.slice none 0 0⟩ : RawV)) Try.underlying24 tyzRaw (rfl : _ = Value.int .i64 (a1.length : Int)) hc.1 hc.2.1 hc.2.2 (fun _ => ⟨rfl, rfl⟩) (by decide) ?_
      intro s1 b1 e1 hb1 hA1
      refine L_makeArr (x0 := (⟨.slice none 0 0⟩ : RawV)) Try.underlying24 tyzRaw (rfl : _ = Value.int .i64 (a1.length : Int)) hc.1 hc.2.1 hc.2.2 (fun _ => ⟨rfl, rfl⟩) (by decide) ?_
      intro s2 b2 e2 hb2 hA2
      refine L_assign (rfl : _ = Value.slice (some ⟨b2, 0, none⟩) ((a1.length : Int)).toNat ((a1.length : Int)).toNat) (by decide) ?_
      refine L_assign (rfl : _ = Value.slice (some ⟨b1, 0, none⟩) ((a1.length : Int)).toNat ((a1.length : Int)).toNat) (by decide) ?_
      have hE := (Ext.drew s0).trans (e1.trans e2)
      have hs0 := (Ext.drew s0).size
      have hs1 := e1.size
      have hl1 := hA1.lt
      have m1 : Mat s2 s0.w.heap.size 5 22 _ _ _ := Mat.init (hA1.ext e2) (Nat.le_trans hs0 hb1)
      have m2 : Mat s2 s0.w.heap.size 5 22 _ _ _ := Mat.init hA2 (Nat.le_trans (Nat.le_trans hs0 hs1) hb2)
      exact L_nil ⟨rfl, then_n ⟨s2, _, _, _, _, rfl, hE, ⟨m2, m1, fun b hb hb2 => by have := foot_init hb; have := foot_init hb2; omega⟩, rfl, rfl, rfl, rfl, rfl, rfl⟩⟩
  rintro f w ⟨s, vR, vL, vsR, vsL, rfl, hE, hM, g0, g1, g2, g7, g8, g9⟩
  refine then_n ?_
  refine W_seq ?_
  refine W_seq ?_
  refine W_region ?_
  refine L_move g1 (by decide) ?_
  refine L_len Try.underlying40 (rfl : _ = w1) (h1.mono hE.le) (by decide) ?_
  refine L_move (rfl : _ = Value.int .i64 0) (by decide) ?_
  refine L_nil ?_
  refine then_n ?_
  refine W_cut (fun f w => ∃ (s : St) (vsR vsL : List RawV), s.w = w ∧ Ext s0 s ∧ Two s s0.w.heap.size 5 22 vR vsR o1.1 vL vsL o1.2 ∧ f 0 = w0 ∧ f 7 = Value.int .i64 (a1.length : Int) ∧ f 8 = vR ∧ f 9 = vL) ?_ ?_
  · refine W_block ?_
    refine W_loop (fun m f w => ∃ (s : St) (i : Int) (vsR vsL : List RawV) (R L : List (List U8)), s.w = w ∧ Ext s0 s ∧ Two s s0.w.heap.size 5 22 vR vsR R vL vsL L ∧ initG N a0 a1 a2 (a1.length : Int) m i R L = some o1 ∧ f 0 = w0 ∧ f 2 = w2 ∧ f 7 = Value.int .i64 (a1.length : Int) ∧ f 8 = vR ∧ f 9 = vL ∧ f 23 = w1 ∧ f 24 = Value.int .i64 (a1.length : Int) ∧ f 25 = Value.int .i64 i) N ⟨s, 0, vsR, vsL, _, _, rfl, hE, hM, ho1, g0, g2, g7, g8, g9, rfl, rfl, rfl⟩ ?_
    clear ho1 hM hE g0 g1 g2 g7 g8 g9
    rintro m f w ⟨s, i, vsR, vsL, R, L, rfl, hE, hM, hi, g0, g2, g7, g8, g9, g23, g24, g25⟩
    cases m with
    | zero => cases hi
    | succ m =>
      rw [initG] at hi
      refine W_seq ?_
      refine W_region ?_
      refine L_lss g25 g24 (by decide) ?_
      refine L_nil ?_
      refine then_n ?_
      refine W_seq ?_
      refine W_cond _ (rfl : _ = Value.bool (decide (i < (a1.length : Int)))) (fun hb => ?_) (fun hb => ?_)
      · have hi := ite_t hb hi
        obtain ⟨j, hj, hi⟩ := bind_some hi
        obtain ⟨x, hx, hi⟩ := bind_some hi
        obtain ⟨d, hd, hi⟩ := bind_some hi
        obtain ⟨c, hc', hi⟩ := bind_some hi
        obtain ⟨zr, hzr, hi⟩ := bind_some hi
        obtain ⟨zl, hzl, hi⟩ := bind_some hi
        obtain ⟨hin, hi⟩ := chk_some hi
        obtain ⟨xr, hxr, hxr2, _, _⟩ := hM.r.idx_ hzr
        obtain ⟨xl, hxl, hxl2, _, _⟩ := hM.l.idx_ hzl
        have ltR := (List.getElem?_eq_some_iff.1 hxr2).1
        have ltL := (List.getElem?_eq_some_iff.1 hxl2).1
        refine W_skip ?_
        refine then_n ?_
        refine W_seq ?_
        refine W_block ?_
        refine W_seq ?_
        refine W_region ?_
        refine L_move g25 (by decide) ?_
        refine L_index Try.underlying40 ty3.inf g23 (h1.mono hE.le) g25 hj (by decide) ?_
        intro q hq
        refine L_load_int ty3 (rfl : _ = q) hq (by decide) ?_
        refine L_assign (rfl : _ = Value.int .i64 i) (by decide) ?_
        refine L_assign (rfl : _ = Value.int .i64 j) (by decide) ?_
        refine L_nil ?_
        refine then_n ?_
        refine W_cut (fun f w => ∃ (s4 : St) (vsR vsL : List RawV), s4.w = w ∧ Ext s0 s4 ∧ Two s4 s0.w.heap.size 5 22 vR vsR (R.set i.toNat x) vL vsL (L.set i.toNat c) ∧ f 0 = w0 ∧ f 2 = w2 ∧ f 7 = Value.int .i64 (a1.length : Int) ∧ f 8 = vR ∧ f 9 = vL ∧ f 23 = w1 ∧ f 24 = Value.int .i64 (a1.length : Int) ∧ f 25 = Value.int .i64 i) ?_ ?_
        · have e0 := Ext.drew s
          refine W_seqd2 7 11 [0, 1, 4, 5, 6, 8, 9, 10, 7, 11, 12, 13, 14, 2, 3, 15, 16] [0, 1, 4, 5, 6, 8, 9, 10, 11, 7, 12, 13, 14, 2, 3, 15, 16] mixed (by kernel_rfl) rfl rfl ?_ ?_
          · refine L_move g8 (by decide) ?_
            refine L_move (rfl : _ = Value.int .i64 i) (by decide) ?_
            refine L_move g0 (by decide) ?_
            refine L_move (rfl : _ = Value.int .i64 j) (by decide) ?_
            refine L_move g7 (by decide) ?_
            refine L_move g2 (by decide) ?_
            refine L_move (rfl : _ = Value.int .i64 i) (by decide) ?_
            refine L_index Try.underlying24 ty22.inf (rfl : _ = w2) (h2.mono (hE.ext e0).le) (rfl : _ = Value.int .i64 i) hd (by decide) ?_
            intro p3 hp3
            refine L_calls cal65 (args3 (rfl : _ = w0) (rfl : _ = Value.int .i64 j) (rfl : _ = Value.int .i64 (a1.length : Int))) (check_field_row_okA N _ w0 a0 (h0.mono (hE.ext e0).le) j (a1.length : Int) x hx) (by decide) ?_
            intro v7 s1 e1 hv7
            obtain ⟨b7, hb7, rfl, hA7⟩ := hv7
            refine L_load ty22 (rfl : _ = p3) (hp3.mono e1.le) (by decide) ?_
            intro v3 hv3
            refine L_calls cal44 (args1 (rfl : _ = v3)) (slices_Clone_Lbyte_byte_okA N _ v3 d hv3 c hc') (by decide) ?_
            intro v4 s2 e2 hv4
            obtain ⟨s3, ez, e3, hC⟩ := Bld.thaw flatU8 e2 hv4
            rw [← ez]
            have E1 := e0.trans e1
            have E3 := E1.trans e3
            have M3 := hM.ext E3
            have hA3 := (hA7.ext e3)
            have hA3S := hA3.toS hb7
            generalize hv7 : Value.slice (some ⟨b7, 0, none⟩) x.length x.length = v7 at hA3S ⊢
            have hl7 : b7 < s1.w.heap.size := hA7.lt
            have own7 : ∀ b, own v7 b → b = b7 := fun b hb => by rw [← hv7] at hb; cases hb; rfl
            have szd := e0.size
            have hA3B : ArrS s3 s0.w.heap.size 5 v7 x := hA3S.base (Nat.le_trans hE.size szd)
            have hCB : ArrS s3 s0.w.heap.size 5 v4 c := hC.base (Nat.le_trans hE.size E1.size)
            have n7 : ∀ b, own v7 b → ¬ foot vR vsR b := fun b hb hf => by have h3 := own7 b hb; have h4 := (hM.r.lt hf).2; omega
            have n7l : ∀ b, own v7 b → ¬ foot vL vsL b := fun b hb hf => by have h3 := own7 b hb; have h4 := (hM.l.lt hf).2; omega
            have n4 : ∀ b, own v4 b → ¬ foot vL vsL b := fun b hb hf => by have h3 := (hC.lt hb).1; have h4 := (hM.l.lt hf).2; have := E1.size; omega
            have n4r : ∀ b, own v4 b → ¬ foot vR vsR b := fun b hb hf => by have h3 := (hC.lt hb).1; have h4 := (hM.r.lt hf).2; have := E1.size; omega
            have n47 : ∀ b, own v4 b → ¬ own v7 b := fun b hb hf => by have h3 := own7 b hf; have h4 := (hC.lt hb).1; omega
            have one7 : v7.oneCell' = true := by rw [← hv7]; rfl
            have one4 : v4.oneCell' = true := by rcases hC with ⟨rfl, _⟩ | ⟨_, _, _, rfl, _⟩ <;> rfl
            refine L_indexS Try.underlying24 tyRaw.inf (rfl : _ = vR) (rfl : _ = Value.int .i64 i) M3.r.outer hxr (by decide) ?_
            refine L_storeS (z := (⟨v7⟩ : RawV)) tyRaw (rfl : _ = elemP vR i 1 0) (rfl : _ = v7) (Vraw one7) M3.r.outer hxr rfl ?_
            intro s4 t4 ho4
            have M4 := M3.store ltR hA3B n7 n7l t4 ho4
            refine L_move g9 (by decide) ?_
            refine L_move (rfl : _ = Value.int .i64 i) (by decide) ?_
            refine L_indexS Try.underlying24 tyRaw.inf (rfl : _ = vL) (rfl : _ = Value.int .i64 i) M4.l.outer hxl (by decide) ?_
            refine L_storeS (z := (⟨v4⟩ : RawV)) tyRaw (rfl : _ = elemP vL i 1 0) (rfl : _ = v4) (Vraw one4) M4.l.outer hxl rfl ?_
            intro s5 t5 ho5
            have hC4 := hCB.tch t4 (fun b hb h => n4r b hb (.inl h))
            have M5 := (M4.flip.store ltL hC4 n4 (fun b hb hf => (foot_store hf).elim (n4r b hb) (n47 b hb)) t5 ho5).flip
            have hE5 : Ext s0 s5 := Tch.trans (Tch.trans (hE.ext E3) t4 (fun k hk => .inr (M3.r.outer.lt hk).1)) t5 (fun k hk => .inr (M4.l.outer.lt hk).1)
            exact L_nil ⟨rfl, then_n ⟨s5, _, _, rfl, hE5, M5, g0, g2, g7, g8, g9, g23, g24, g25⟩⟩
          · refine L_move g8 (by decide) ?_
            refine L_move (rfl : _ = Value.int .i64 i) (by decide) ?_
            refine L_move g0 (by decide) ?_
            refine L_move (rfl : _ = Value.int .i64 j) (by decide) ?_
            refine L_move g7 (by decide) ?_
            refine L_move g2 (by decide) ?_
            refine L_move (rfl : _ = Value.int .i64 i) (by decide) ?_
            refine L_index Try.underlying24 ty22.inf (rfl : _ = w2) (h2.mono (hE.ext e0).le) (rfl : _ = Value.int .i64 i) hd (by decide) ?_
            intro p3 hp3
            refine L_load ty22 (rfl : _ = p3) hp3 (by decide) ?_
            intro v3 hv3
            refine L_calls cal65 (args3 (rfl : _ = w0) (rfl : _ = Value.int .i64 j) (rfl : _ = Value.int .i64 (a1.length : Int))) (check_field_row_okA N _ w0 a0 (h0.mono (hE.ext e0).le) j (a1.length : Int) x hx) (by decide) ?_
            intro v7 s1 e1 hv7
            obtain ⟨b7, hb7, rfl, hA7⟩ := hv7
            have hv3 := hv3.mono e1.le
            refine L_calls cal44 (args1 (rfl : _ = v3)) (slices_Clone_Lbyte_byte_okA N _ v3 d hv3 c hc') (by decide) ?_
            intro v4 s2 e2 hv4
            obtain ⟨s3, ez, e3, hC⟩ := Bld.thaw flatU8 e2 hv4
            rw [← ez]
            have E1 := e0.trans e1
            have E3 := E1.trans e3
            have M3 := hM.ext E3
            have hA3 := (hA7.ext e3)
            have hA3S := hA3.toS hb7
            generalize hv7 : Value.slice (some ⟨b7, 0, none⟩) x.length x.length = v7 at hA3S ⊢
            have hl7 : b7 < s1.w.heap.size := hA7.lt
            have own7 : ∀ b, own v7 b → b = b7 := fun b hb => by rw [← hv7] at hb; cases hb; rfl
            have szd := e0.size
            have hA3B : ArrS s3 s0.w.heap.size 5 v7 x := hA3S.base (Nat.le_trans hE.size szd)
            have hCB : ArrS s3 s0.w.heap.size 5 v4 c := hC.base (Nat.le_trans hE.size E1.size)
            have n7 : ∀ b, own v7 b → ¬ foot vR vsR b := fun b hb hf => by have h3 := own7 b hb; have h4 := (hM.r.lt hf).2; omega
            have n7l : ∀ b, own v7 b → ¬ foot vL vsL b := fun b hb hf => by have h3 := own7 b hb; have h4 := (hM.l.lt hf).2; omega
            have n4 : ∀ b, own v4 b → ¬ foot vL vsL b := fun b hb hf => by have h3 := (hC.lt hb).1; have h4 := (hM.l.lt hf).2; have := E1.size; omega
            have n4r : ∀ b, own v4 b → ¬ foot vR vsR b := fun b hb hf => by have h3 := (hC.lt hb).1; have h4 := (hM.r.lt hf).2; have := E1.size; omega
            have n47 : ∀ b, own v4 b → ¬ own v7 b := fun b hb hf => by have h3 := own7 b hf; have h4 := (hC.lt hb).1; omega
            have one7 : v7.oneCell' = true := by rw [← hv7]; rfl
            have one4 : v4.oneCell' = true := by rcases hC with ⟨rfl, _⟩ | ⟨_, _, _, rfl, _⟩ <;> rfl
            refine L_indexS Try.underlying24 tyRaw.inf (rfl : _ = vR) (rfl : _ = Value.int .i64 i) M3.r.outer hxr (by decide) ?_
            refine L_storeS (z := (⟨v7⟩ : RawV)) tyRaw (rfl : _ = elemP vR i 1 0) (rfl : _ = v7) (Vraw one7) M3.r.outer hxr rfl ?_
            intro s4 t4 ho4
            have M4 := M3.store ltR hA3B n7 n7l t4 ho4
            refine L_move g9 (by decide) ?_
            refine L_move (rfl : _ = Value.int .i64 i) (by decide) ?_
            refine L_indexS Try.underlying24 tyRaw.inf (rfl : _ = vL) (rfl : _ = Value.int .i64 i) M4.l.outer hxl (by decide) ?_
            refine L_storeS (z := (⟨v4⟩ : RawV)) tyRaw (rfl : _ = elemP vL i 1 0) (rfl : _ = v4) (Vraw one4) M4.l.outer hxl rfl ?_
            intro s5 t5 ho5
            have hC4 := hCB.tch t4 (fun b hb h => n4r b hb (.inl h))
            have M5 := (M4.flip.store ltL hC4 n4 (fun b hb hf => (foot_store hf).elim (n4r b hb) (n47 b hb)) t5 ho5).flip
            have hE5 : Ext s0 s5 := Tch.trans (Tch.trans (hE.ext E3) t4 (fun k hk => .inr (M3.r.outer.lt hk).1)) t5 (fun k hk => .inr (M4.l.outer.lt hk).1)
            exact L_nil ⟨rfl, then_n ⟨s5, _, _, rfl, hE5, M5, g0, g2, g7, g8, g9, g23, g24, g25⟩⟩
        · rintro f w ⟨s4, vsR, vsL, rfl, hE, hM, g0, g2, g7, g8, g9, g23, g24, g25⟩
          refine block_n ?_
          refine then_n ?_
          refine W_region ?_
          refine L_add g25 (rfl : _ = Value.int .i64 (1)) hin (by decide) ?_
          refine L_move (rfl : _ = Value.int .i64 (i + 1)) (by decide) ?_
          refine L_nil ?_
          exact then_n ⟨m, Nat.lt_succ_self _, s4, i + 1, vsR, vsL, _, _, rfl, hE, hM, hi, g0, g2, g7, g8, g9, g23, g24, rfl⟩
      · have hi := ite_f hb hi
        obtain rfl := Option.some.inj hi
        refine W_exit ?_
        refine then_x ?_
        refine then_x ?_
        refine block_here ?_
        exact then_n ⟨s, vsR, vsL, rfl, hE, hM, g0, g7, g8, g9⟩
  clear ho1 hM hE g0 g1 g2 g7 g8 g9
  rintro f w ⟨s, vsR, vsL, rfl, hE, hM, g0, g7, g8, g9⟩
  refine then_n ?_
  refine W_seq ?_
  refine W_seq ?_
  refine W_region ?_
  refine L_move g7 (by decide) ?_
  refine L_move (rfl : _ = Value.int .i64 0) (by decide) ?_
  refine L_nil ?_
  refine then_n ?_
  refine W_cut (fun f w => ∃ (s : St) (vsL : List RawV), s.w = w ∧ Ext s0 s ∧ Mat s s0.w.heap.size 5 22 vL vsL r ∧ f 9 = vL) ?_ ?_
  · refine W_block ?_
    refine W_loop (fun m f w => ∃ (s : St) (c : Int) (vsR vsL : List RawV) (R L : List (List U8)), s.w = w ∧ Ext s0 s ∧ Two s s0.w.heap.size 5 22 vR vsR R vL vsL L ∧ stepG N a0 (a1.length : Int) m c R L = some r ∧ f 0 = w0 ∧ f 7 = Value.int .i64 (a1.length : Int) ∧ f 8 = vR ∧ f 9 = vL ∧ f 46 = Value.int .i64 (a1.length : Int) ∧ f 47 = Value.int .i64 c) N ⟨s, 0, vsR, vsL, _, _, rfl, hE, hM, hr, g0, g7, g8, g9, rfl, rfl⟩ ?_
    clear hr hM hE g0 g7 g8 g9
    rintro m f w ⟨s, c, vsR, vsL, R, L, rfl, hE, hM, hr, g0, g7, g8, g9, g46, g47⟩
    cases m with
    | zero => cases hr
    | succ m =>
      rw [stepG] at hr
      refine W_seq ?_
      refine W_region ?_
      refine L_lss g47 g46 (by decide) ?_
      refine L_nil ?_
      refine then_n ?_
      refine W_seq ?_
      refine W_cond _ (rfl : _ = Value.bool (decide (c < (a1.length : Int)))) (fun hb => ?_) (fun hb => ?_)
      · have hr := ite_t hb hr
        obtain ⟨T, hT, hr⟩ := bind_some hr
        obtain ⟨q, hq, hr⟩ := bind_some hr
        obtain ⟨hcq, hr⟩ := chk_some hr
        obtain ⟨R1, hR1, hr⟩ := bind_some hr
        obtain ⟨L1, hL1, hr⟩ := bind_some hr
        obtain ⟨x, hx, hr⟩ := bind_some hr
        obtain ⟨e, he, hr⟩ := bind_some hr
        obtain ⟨e', he', hr⟩ := bind_some hr
        obtain ⟨x', hx', hr⟩ := bind_some hr
        obtain ⟨y, hy, hr⟩ := bind_some hr
        obtain ⟨y', hy', hr⟩ := bind_some hr
        obtain ⟨o2, ho2, hr⟩ := bind_some hr
        obtain ⟨hc1, hfin⟩ := chk_some hr
        refine W_skip ?_
        refine then_n ?_
        refine W_seq ?_
        refine W_block ?_
        refine W_seq ?_
        refine W_region ?_
        refine L_move g47 (by decide) ?_
        refine L_alloc (α := Int) (x := 0) zero3 (fun _ => rfl) (by decide) ?_
        intro s1 b1 e1 hb1 hV1
        refine L_store_ro ty3 (rfl : _ = Value.pointer (some ⟨b1, 0, none⟩)) (rfl : _ = Value.int .i64 c) Vint hV1 ?_
        intro s2 t2 hP
        have E2 : Ext s s2 := Tch.trans e1 t2 (fun k hk => .inr (by subst hk; exact hb1))
        generalize hvc : Value.pointer (some ⟨b1, 0, none⟩) = vc at hP ⊢
        refine L_nil ?_
        refine then_n ?_
        refine W_seq ?_
        have hM := hM.ext E2
        have hE := hE.trans E2
        refine W_cut (fun f w => ∃ (s : St), s.w = w ∧ Ext s0 s ∧ Two s s0.w.heap.size 5 22 vR vsR R vL vsL L ∧ Ptr s vc c ∧ f 0 = w0 ∧ f 7 = Value.int .i64 (a1.length : Int) ∧ f 8 = vR ∧ f 9 = vL ∧ f 46 = Value.int .i64 (a1.length : Int) ∧ f 47 = Value.int .i64 c ∧ f 12 = vc ∧ f 13 = Value.int .i64 (c + q)) ?_ ?_
        · have e0 := Ext.drew s2
          have M0 := (hM.ext e0).r
          obtain ⟨sf, ef, tf, hvf⟩ := M0.freeze
          have hPf := (hP.mono e0.le).mono tf.le
          refine W_seqd2 0 5 [0, 1, 2, 3, 4, 5, 6, 7] [1, 2, 3, 4, 5, 0, 6, 7] mixed (by kernel_rfl) rfl rfl ?_ ?_

          · rw [← ef]
            refine L_load_int ty3 (rfl : _ = vc) (hPf) (by decide) ?_
            refine L_move g8 (by decide) ?_
            refine L_load_int ty3 (rfl : _ = vc) (hPf) (by decide) ?_
            refine L_slice_l Try.underlying24 ty22.inf (rfl : _ = vR) hvf (rfl : _ = Value.int .i64 c) hT (by decide) ?_
            intro v53 hv53
            refine L_makeFunc (args1 (rfl : _ = vc)) (by decide) ?_
            refine L_calls cal66 (args2 (rfl : _ = v53) (rfl : _ = Value.func (.func 67) #[] #[vc])) (slices_IndexFunc_LLbyte_Lbyte_ok N _ v53 T hv53 _ (fun x => check_field_solve_1 N x c) (Fn1.mk1 cal67 fun t vx x r hl hv hr => check_field_solve_1_ok N t vx x hv _ _ (hPf.mono hl) r hr) q hq) (by decide) ?_
            intro v55 s3 e3 hv55
            obtain rfl := hv55.int
            refine L_add (rfl : _ = Value.int .i64 c) (rfl : _ = Value.int .i64 q) hcq (by decide) ?_
            refine L_assign (rfl : _ = Value.int .i64 (c + q)) (by decide) ?_
            obtain ⟨s4, e4, x4⟩ := thaw ef tf (fun k hk => M0.g hk) e3
            exact L_nil ⟨rfl, then_n ⟨s4, e4, hE.trans (e0.trans x4), hM.ext (e0.trans x4), hP.mono (e0.trans x4).le, g0, g7, g8, g9, g46, g47, rfl, rfl⟩⟩
          · rw [← ef]
            refine L_move g8 (by decide) ?_
            refine L_load_int ty3 (rfl : _ = vc) (hPf) (by decide) ?_
            refine L_slice_l Try.underlying24 ty22.inf (rfl : _ = vR) hvf (rfl : _ = Value.int .i64 c) hT (by decide) ?_
            intro v53 hv53
            refine L_makeFunc (args1 (rfl : _ = vc)) (by decide) ?_
            refine L_calls cal66 (args2 (rfl : _ = v53) (rfl : _ = Value.func (.func 67) #[] #[vc])) (slices_IndexFunc_LLbyte_Lbyte_ok N _ v53 T hv53 _ (fun x => check_field_solve_1 N x c) (Fn1.mk1 cal67 fun t vx x r hl hv hr => check_field_solve_1_ok N t vx x hv _ _ (hPf.mono hl) r hr) q hq) (by decide) ?_
            intro v55 s3 e3 hv55
            obtain rfl := hv55.int
            refine L_load_int ty3 (rfl : _ = vc) (hPf.mono e3.le) (by decide) ?_
            refine L_add (rfl : _ = Value.int .i64 c) (rfl : _ = Value.int .i64 q) hcq (by decide) ?_
            refine L_assign (rfl : _ = Value.int .i64 (c + q)) (by decide) ?_
            obtain ⟨s4, e4, x4⟩ := thaw ef tf (fun k hk => M0.g hk) e3
            exact L_nil ⟨rfl, then_n ⟨s4, e4, hE.trans (e0.trans x4), hM.ext (e0.trans x4), hP.mono (e0.trans x4).le, g0, g7, g8, g9, g46, g47, rfl, rfl⟩⟩
        clear hM hE hP g0 g7 g8 g9 g46 g47
        rintro f w ⟨s, rfl, hE, hM, hP, g0, g7, g8, g9, g46, g47, g12, g13⟩
        refine then_n ?_
        refine W_seq ?_
        have e0 := Ext.drew s
        have M0 := hM.ext e0
        unfold swapG at hR1
        obtain ⟨zp, hzp, hR1⟩ := bind_some hR1
        obtain ⟨zc, hzc, hR1⟩ := bind_some hR1
        obtain rfl := Option.some.inj hR1
        obtain ⟨rp, hrp, hrp2, hrp3, hap⟩ := M0.r.idx_ hzp
        obtain ⟨rc, hrc, hrc2, hrc3, hac⟩ := M0.r.idx_ hzc
        have onep : rp.v.oneCell' = true := by rcases hap with ⟨h, _⟩ | ⟨_, _, _, h, _⟩ <;> rw [h] <;> rfl
        have onec : rc.v.oneCell' = true := by rcases hac with ⟨h, _⟩ | ⟨_, _, _, h, _⟩ <;> rw [h] <;> rfl
        obtain ⟨ru, hru⟩ := idx_set_some (z := rp) c.toNat hrp
        refine W_seqd [0, 1, 4, 5, 6, 7, 8, 9, 10, 11, 12, 13, 2, 3, 14, 15] mixed (by kernel_rfl) rfl ?_
        refine L_move g8 (by decide) ?_
        refine L_load_int ty3 g12 (hP.mono e0.le) (by decide) ?_
        refine L_move g8 (by decide) ?_
        refine L_move g13 (by decide) ?_
        refine L_indexS Try.underlying24 tyRaw.inf (rfl : _ = vR) (rfl : _ = Value.int .i64 (c + q)) M0.r.outer hrp (by decide) ?_
        refine L_loadS tyRaw (rfl : _ = elemP vR (c + q) 1 0) M0.r.outer hrp rfl (by decide) ?_
        intro u1 hu1
        obtain rfl := hu1.raw
        refine L_move g8 (by decide) ?_
        refine L_load_int ty3 g12 (hP.mono e0.le) (by decide) ?_
        refine L_indexS Try.underlying24 tyRaw.inf (rfl : _ = vR) (rfl : _ = Value.int .i64 c) M0.r.outer hrc (by decide) ?_
        refine L_loadS tyRaw (rfl : _ = elemP vR c 1 0) M0.r.outer hrc rfl (by decide) ?_
        intro u2 hu2
        obtain rfl := hu2.raw
        refine L_indexS Try.underlying24 tyRaw.inf (rfl : _ = vR) (rfl : _ = Value.int .i64 c) M0.r.outer hrc (by decide) ?_
        refine L_storeS (z := rp) tyRaw (rfl : _ = elemP vR c 1 0) (rfl : _ = rp.v) (Vraw onep) M0.r.outer hrc rfl ?_
        intro s1 t1 ho1
        refine L_move g8 (by decide) ?_
        refine L_move g13 (by decide) ?_
        refine L_indexS Try.underlying24 tyRaw.inf (rfl : _ = vR) (rfl : _ = Value.int .i64 (c + q)) ho1 hru (by decide) ?_
        refine L_storeS (z := rc) tyRaw (rfl : _ = elemP vR (c + q) 1 0) (rfl : _ = rc.v) (Vraw onec) ho1 hru rfl ?_
        intro s2 t2 ho2
        have t3 : Tch (own vR) s.drew s2 := Tch.trans t1 t2 (fun _ h => .inl h)
        have M2 := M0.swap hrc2 hrp2 hrc3 hrp3 t3 ho2
        have E2 : Ext s0 s2 := Tch.trans (hE.ext e0) t3 (fun k hk => .inr (M0.r.outer.lt hk).1)
        have P2 := (hP.mono e0.le).mono t3.le
        refine L_nil ⟨rfl, ?_⟩
        clear hM hE hP M0 ho1 ho2 t1 t2 t3 e0
        generalize (vsR.set c.toNat rp).set (c + q).toNat rc = vsR at M2
        generalize s2 = s at M2 E2 P2 ⊢
        have hM := M2
        have hE := E2
        have hP := P2
        clear M2 E2 P2
        refine then_n ?_
        refine W_seq ?_
        have e0 := Ext.drew s
        have M0 := hM.ext e0
        unfold swapG at hL1
        obtain ⟨zp, hzp, hL1⟩ := bind_some hL1
        obtain ⟨zc, hzc, hL1⟩ := bind_some hL1
        obtain rfl := Option.some.inj hL1
        obtain ⟨rp, hrp, hrp2, hrp3, hap⟩ := M0.l.idx_ hzp
        obtain ⟨rc, hrc, hrc2, hrc3, hac⟩ := M0.l.idx_ hzc
        have onep : rp.v.oneCell' = true := by rcases hap with ⟨h, _⟩ | ⟨_, _, _, h, _⟩ <;> rw [h] <;> rfl
        have onec : rc.v.oneCell' = true := by rcases hac with ⟨h, _⟩ | ⟨_, _, _, h, _⟩ <;> rw [h] <;> rfl
        obtain ⟨ru, hru⟩ := idx_set_some (z := rp) c.toNat hrp
        refine W_seqd [0, 1, 4, 5, 6, 7, 8, 9, 10, 11, 12, 13, 2, 3, 14, 15] mixed (by kernel_rfl) rfl ?_
        refine L_move g9 (by decide) ?_
        refine L_load_int ty3 g12 (hP.mono e0.le) (by decide) ?_
        refine L_move g9 (by decide) ?_
        refine L_move g13 (by decide) ?_
        refine L_indexS Try.underlying24 tyRaw.inf (rfl : _ = vL) (rfl : _ = Value.int .i64 (c + q)) M0.l.outer hrp (by decide) ?_
        refine L_loadS tyRaw (rfl : _ = elemP vL (c + q) 1 0) M0.l.outer hrp rfl (by decide) ?_
        intro u1 hu1
        obtain rfl := hu1.raw
        refine L_move g9 (by decide) ?_
        refine L_load_int ty3 g12 (hP.mono e0.le) (by decide) ?_
        refine L_indexS Try.underlying24 tyRaw.inf (rfl : _ = vL) (rfl : _ = Value.int .i64 c) M0.l.outer hrc (by decide) ?_
        refine L_loadS tyRaw (rfl : _ = elemP vL c 1 0) M0.l.outer hrc rfl (by decide) ?_
        intro u2 hu2
        obtain rfl := hu2.raw
        refine L_indexS Try.underlying24 tyRaw.inf (rfl : _ = vL) (rfl : _ = Value.int .i64 c) M0.l.outer hrc (by decide) ?_
        refine L_storeS (z := rp) tyRaw (rfl : _ = elemP vL c 1 0) (rfl : _ = rp.v) (Vraw onep) M0.l.outer hrc rfl ?_
        intro s1 t1 ho1
        refine L_move g9 (by decide) ?_
        refine L_move g13 (by decide) ?_
        refine L_indexS Try.underlying24 tyRaw.inf (rfl : _ = vL) (rfl : _ = Value.int .i64 (c + q)) ho1 hru (by decide) ?_
        refine L_storeS (z := rc) tyRaw (rfl : _ = elemP vL (c + q) 1 0) (rfl : _ = rc.v) (Vraw onec) ho1 hru rfl ?_
        intro s2 t2 ho2
        have t3 : Tch (own vL) s.drew s2 := Tch.trans t1 t2 (fun _ h => .inl h)
        have M2 := (M0.flip.swap hrc2 hrp2 hrc3 hrp3 t3 ho2).flip
        have E2 : Ext s0 s2 := Tch.trans (hE.ext e0) t3 (fun k hk => .inr (M0.l.outer.lt hk).1)
        have P2 := (hP.mono e0.le).mono t3.le
        refine L_nil ⟨rfl, ?_⟩
        clear hM hE hP M0 ho1 ho2 t1 t2 t3 e0
        generalize (vsL.set c.toNat rp).set (c + q).toNat rc = vsL at M2
        generalize s2 = s at M2 E2 P2 ⊢
        have hM := M2
        have hE := E2
        have hP := P2
        clear M2 E2 P2
        refine then_n ?_
        refine W_seq ?_
        have e0 := Ext.drew s
        obtain ⟨rx, hrx, hrx2, hrx3, hax⟩ := (hM.ext e0).r.idx_ hx
        refine W_seqd [0, 1, 2, 3, 4, 5, 6, 7, 8, 9] mixed (by kernel_rfl) rfl ?_
        refine L_move g0 (by decide) ?_
        refine L_move g8 (by decide) ?_
        refine L_load_int ty3 g12 (hP.mono e0.le) (by decide) ?_
        refine L_indexS Try.underlying24 tyRaw.inf (rfl : _ = vR) (rfl : _ = Value.int .i64 c) (hM.ext e0).r.outer hrx (by decide) ?_
        refine L_loadS tyRaw (rfl : _ = elemP vR c 1 0) (hM.ext e0).r.outer hrx rfl (by decide) ?_
        intro u1 hu1
        obtain rfl := hu1.raw
        refine L_load_int ty3 g12 (hP.mono e0.le) (by decide) ?_
        refine L_indexS Try.underlying22 ty5.inf (rfl : _ = rx.v) (rfl : _ = Value.int .i64 c) hax he (by decide) ?_
        refine L_loadS ty5 (rfl : _ = elemP rx.v c 1 0) hax he rfl (by decide) ?_
        intro u2 hu2
        obtain rfl := hu2.u8
        refine L_calls cal68 (args2 (rfl : _ = w0) (rfl : _ = Value.int .u8 e.n)) (check_field_inverse_ok N _ w0 a0 (h0.mono (hE.ext e0).le) e e' he') (by decide) ?_
        intro v93 s1 e1 hv93
        obtain rfl := hv93.u8
        refine L_assign (rfl : _ = Value.int .u8 (e').n) (by decide) ?_
        refine L_nil ⟨rfl, ?_⟩
        refine then_n ?_
        have hM := hM.ext (e0.trans e1)
        have hE := hE.trans (e0.trans e1)
        have hP := hP.mono (e0.trans e1).le
        obtain ⟨rx, hrx, hrx2, hrx3, hax⟩ := hM.r.idx_ hx
        refine W_seq ?_
        refine W_region ?_
        refine L_move g0 (by decide) ?_
        refine L_move g8 (by decide) ?_
        refine L_load_int ty3 g12 hP (by decide) ?_
        refine L_indexS Try.underlying24 tyRaw.inf (rfl : _ = vR) (rfl : _ = Value.int .i64 c) hM.r.outer hrx (by decide) ?_
        refine L_loadS tyRaw (rfl : _ = elemP vR c 1 0) hM.r.outer hrx rfl (by decide) ?_
        intro u1 hu1
        obtain rfl := hu1.raw
        refine L_move (rfl : _ = Value.int .u8 (e').n) (by decide) ?_
        refine L_calls_mut cal69 (args3 (rfl : _ = w0) (rfl : _ = rx.v) (rfl : _ = Value.int .u8 (e').n)) (check_field_scale_ok N s1 w0 a0 (h0.mono hE.le) s0.w.heap.size rx.v x hax e' x' hx') (by decide) ?_
        intro v100 s3 t3 hx3
        have E3 : Ext s0 s3 := Tch.trans hE t3 (fun k hk => .inr (hax.lt hk).1)
        have M3 := hM.row hrx2 t3 hx3
        have P3 := hP.mono t3.le
        refine L_nil ?_
        refine then_n ?_
        refine W_seq ?_
        refine W_region ?_
        obtain ⟨ry, hry, hry2, hry3, hay⟩ := M3.l.idx_ hy
        refine L_move g0 (by decide) ?_
        refine L_move g9 (by decide) ?_
        refine L_load_int ty3 g12 P3 (by decide) ?_
        refine L_indexS Try.underlying24 tyRaw.inf (rfl : _ = vL) (rfl : _ = Value.int .i64 c) M3.l.outer hry (by decide) ?_
        refine L_loadS tyRaw (rfl : _ = elemP vL c 1 0) M3.l.outer hry rfl (by decide) ?_
        intro u2 hu2
        obtain rfl := hu2.raw
        refine L_move (rfl : _ = Value.int .u8 (e').n) (by decide) ?_
        refine L_calls_mut cal69 (args3 (rfl : _ = w0) (rfl : _ = ry.v) (rfl : _ = Value.int .u8 (e').n)) (check_field_scale_ok N s3 w0 a0 (h0.mono E3.le) s0.w.heap.size ry.v y hay e' y' hy') (by decide) ?_
        intro v107 s4 t4 hy4
        have E4 : Ext s0 s4 := Tch.trans E3 t4 (fun k hk => .inr (hay.lt hk).1)
        have M4 := (M3.flip.row hry2 t4 hy4).flip
        have P4 := P3.mono t4.le
        refine L_nil ?_
        refine then_n ?_
        refine W_seq ?_
        refine W_region ?_
        refine L_move g7 (by decide) ?_
        refine L_move (rfl : _ = Value.int .i64 0) (by decide) ?_
        refine L_nil ?_
        refine then_n ?_
        refine W_cut (fun f w => ∃ (s : St), s.w = w ∧ Ext s0 s ∧ Two s s0.w.heap.size 5 22 vR vsR o2.1 vL vsL o2.2 ∧ f 0 = w0 ∧ f 7 = Value.int .i64 (a1.length : Int) ∧ f 8 = vR ∧ f 9 = vL ∧ f 46 = Value.int .i64 (a1.length : Int) ∧ f 47 = Value.int .i64 c) ?_ ?_
        · refine W_block ?_
          refine W_loop (fun m f w => ∃ (s : St) (i : Int) (R L : List (List U8)), s.w = w ∧ Ext s0 s ∧ Two s s0.w.heap.size 5 22 vR vsR R vL vsL L ∧ Ptr s vc c ∧ elimG N a0 c (a1.length : Int) m i R L = some o2 ∧ f 0 = w0 ∧ f 7 = Value.int .i64 (a1.length : Int) ∧ f 8 = vR ∧ f 9 = vL ∧ f 46 = Value.int .i64 (a1.length : Int) ∧ f 47 = Value.int .i64 c ∧ f 12 = vc ∧ f 108 = Value.int .i64 (a1.length : Int) ∧ f 109 = Value.int .i64 i) N ⟨s4, 0, _, _, rfl, E4, M4, P4, ho2, g0, g7, g8, g9, g46, g47, g12, rfl, rfl⟩ ?_
          clear M4 E4 P4 M3 E3 P3 hM hE hP g0 g7 g8 g9 g46 g47 g12 g13 ho2 hx3 hy4 t3 t4 hax hay
          rintro m f w ⟨s, i, R, L, rfl, hE, hM, hP, hi, g0, g7, g8, g9, g46, g47, g12, g108, g109⟩
          cases m with
          | zero => cases hi
          | succ m =>
            rw [elimG] at hi
            refine W_seq ?_
            refine W_region ?_
            refine L_lss g109 g108 (by decide) ?_
            refine L_nil ?_
            refine then_n ?_
            refine W_seq ?_
            refine W_cond _ (rfl : _ = Value.bool (decide (i < (a1.length : Int)))) (fun hb => ?_) (fun hb => ?_)
            · have hi := ite_t hb hi
              obtain ⟨b, hbb, hi⟩ := bind_some hi
              refine W_skip ?_
              refine then_n ?_
              refine W_seq ?_
              refine W_block ?_
              refine W_seq ?_
              refine W_region ?_
              refine L_move g109 (by decide) ?_
              refine L_assign (rfl : _ = Value.int .i64 i) (by decide) ?_
              refine L_nil ?_
              refine then_n ?_
              refine W_seq ?_
              have e0 := Ext.drew s
              refine W_cut (fun f w => ∃ (s : St), s.w = w ∧ Ext s0 s ∧ Two s s0.w.heap.size 5 22 vR vsR R vL vsL L ∧ Ptr s vc c ∧ (b = true → i ≠ c) ∧ f 0 = w0 ∧ f 7 = Value.int .i64 (a1.length : Int) ∧ f 8 = vR ∧ f 9 = vL ∧ f 46 = Value.int .i64 (a1.length : Int) ∧ f 47 = Value.int .i64 c ∧ f 12 = vc ∧ f 108 = Value.int .i64 (a1.length : Int) ∧ f 109 = Value.int .i64 i ∧ f 15 = Value.int .i64 i ∧ f 124 = Value.bool b) ?_ ?_
              · refine W_seqd [0, 1, 2, 3, 4, 5, 6, 7, 8, 9, 10, 11, 12] mixed (by kernel_rfl) rfl ?_
                refine L_move (rfl : _ = Value.int .i64 i) (by decide) ?_
                refine L_load_int ty3 g12 (hP.mono e0.le) (by decide) ?_
                refine L_neq (rfl : _ = Value.int .i64 i) (rfl : _ = Value.int .i64 c) (by decide) ?_
                refine L_move (rfl : _ = Value.bool (!decide (i = c))) (by decide) ?_
                rcases Bool.eq_false_or_eq_true (!decide (i = c)) with hn | hn
                · have hbb := ite_t hn hbb
                  have hM0 := hM.ext e0
                  obtain ⟨x, hx, hbb⟩ := bind_some hbb
                  obtain ⟨e, he, hbb⟩ := bind_some hbb
                  obtain ⟨rx, hrx, hrx2, hrx3, hax⟩ := hM0.r.idx_ hx

                  refine L_gt (e := 115) (by rfl) (by decide) (rfl : _ = Value.bool (!decide (i = c))) hn ?_
                  refine L_move g8 (by decide) ?_
                  refine L_gt (e := 115) (by rfl) (by decide) (rfl : _ = Value.bool (!decide (i = c))) hn ?_
                  refine L_move (rfl : _ = Value.int .i64 i) (by decide) ?_
                  refine L_gt (e := 115) (by rfl) (by decide) (rfl : _ = Value.bool (!decide (i = c))) hn ?_
                  refine L_indexS Try.underlying24 tyRaw.inf (rfl : _ = vR) (rfl : _ = Value.int .i64 i) hM0.r.outer hrx (by decide) ?_
                  refine L_gt (e := 115) (by rfl) (by decide) (rfl : _ = Value.bool (!decide (i = c))) hn ?_
                  refine L_loadS tyRaw (rfl : _ = elemP vR i 1 0) hM0.r.outer hrx rfl (by decide) ?_
                  intro u1 hu1
                  obtain rfl := hu1.raw
                  refine L_gt (e := 115) (by rfl) (by decide) (rfl : _ = Value.bool (!decide (i = c))) hn ?_
                  refine L_load_int ty3 g12 (hP.mono e0.le) (by decide) ?_
                  refine L_gt (e := 115) (by rfl) (by decide) (rfl : _ = Value.bool (!decide (i = c))) hn ?_
                  refine L_indexS Try.underlying22 ty5.inf (rfl : _ = rx.v) (rfl : _ = Value.int .i64 c) hax he (by decide) ?_
                  refine L_gt (e := 115) (by rfl) (by decide) (rfl : _ = Value.bool (!decide (i = c))) hn ?_
                  refine L_loadS ty5 (rfl : _ = elemP rx.v c 1 0) hax he rfl (by decide) ?_
                  intro u2 hu2
                  obtain rfl := hu2.u8
                  refine L_gt (e := 115) (by rfl) (by decide) (rfl : _ = Value.bool (!decide (i = c))) hn ?_
                  refine L_neq (rfl : _ = Value.int .u8 e.n) (rfl : _ = Value.int .u8 0) (by decide) ?_
                  obtain rfl := Option.some.inj hbb
                  refine L_pick_t (rfl : _ = Value.bool (!decide (i = c))) hn (rfl : _ = Value.bool (!decide (e.n = 0))) (by decide) ?_
                  exact L_nil ⟨rfl, then_n ⟨s.drew, rfl, hE.ext e0, hM0, hP.mono e0.le, (fun _ => by simpa using hn), g0, g7, g8, g9, g46, g47, g12, g108, g109, rfl, rfl⟩⟩
                · have hbb := ite_f hn hbb
                  obtain rfl := Option.some.inj hbb
                  refine L_gf (e := 115) (by rfl) (by decide) (rfl : _ = Value.bool (!decide (i = c))) hn (by decide) ?_
                  refine L_gf (e := 115) (by rfl) (by decide) (rfl : _ = Value.bool (!decide (i = c))) hn (by decide) ?_
                  refine L_gf (e := 115) (by rfl) (by decide) (rfl : _ = Value.bool (!decide (i = c))) hn (by decide) ?_
                  refine L_gf (e := 115) (by rfl) (by decide) (rfl : _ = Value.bool (!decide (i = c))) hn (by decide) ?_
                  refine L_gf (e := 115) (by rfl) (by decide) (rfl : _ = Value.bool (!decide (i = c))) hn (by decide) ?_
                  refine L_gf (e := 115) (by rfl) (by decide) (rfl : _ = Value.bool (!decide (i = c))) hn (by decide) ?_
                  refine L_gf (e := 115) (by rfl) (by decide) (rfl : _ = Value.bool (!decide (i = c))) hn (by decide) ?_
                  refine L_gf (e := 115) (by rfl) (by decide) (rfl : _ = Value.bool (!decide (i = c))) hn (by decide) ?_
                  refine L_pick_f (rfl : _ = Value.bool (!decide (i = c))) hn (rfl : _ = Value.bool false) (by decide) ?_
                  exact L_nil ⟨rfl, then_n ⟨s.drew, rfl, hE.ext e0, hM.ext e0, hP.mono e0.le, (fun h => by cases h), g0, g7, g8, g9, g46, g47, g12, g108, g109, rfl, rfl⟩⟩
              clear hM hE hP g0 g7 g8 g9 g46 g47 g12 g108 g109 e0
              rintro f w ⟨s, rfl, hE, hM, hP, hne, g0, g7, g8, g9, g46, g47, g12, g108, g109, g15, g124⟩
              refine then_n ?_
              refine W_cond _ g124 (fun ht => ?_) (fun ht => ?_)
              · subst ht
                have hic := hne rfl
                obtain ⟨x, hx, hi⟩ := bind_some hi
                obtain ⟨e, he, hi⟩ := bind_some hi
                obtain ⟨z, hz, hi⟩ := bind_some hi
                obtain ⟨x', hx', hi⟩ := bind_some hi
                obtain ⟨y, hy, hi⟩ := bind_some hi
                obtain ⟨u, hu, hi⟩ := bind_some hi
                obtain ⟨y', hy', hi⟩ := bind_some hi
                obtain ⟨hin, hi⟩ := chk_some hi
                have hicn : i.toNat ≠ c.toNat := fun h => hic (by have := (idx_some hx).1; have := (idx_some hz).1; omega)
                refine W_seq ?_
                have e0 := Ext.drew s
                have hM := hM.ext e0
                have hE := hE.ext e0
                have hP := hP.mono e0.le
                obtain ⟨rx, hrx, hrx2, hrx3, hax⟩ := hM.r.idx_ hx
                refine W_seqd [0, 1, 2, 3, 4, 5, 6, 7] mixed (by kernel_rfl) rfl ?_
                refine L_move g8 (by decide) ?_
                refine L_move g15 (by decide) ?_
                refine L_indexS Try.underlying24 tyRaw.inf (rfl : _ = vR) (rfl : _ = Value.int .i64 i) hM.r.outer hrx (by decide) ?_
                refine L_loadS tyRaw (rfl : _ = elemP vR i 1 0) hM.r.outer hrx rfl (by decide) ?_
                intro u1 hu1
                obtain rfl := hu1.raw
                refine L_load_int ty3 g12 hP (by decide) ?_
                refine L_indexS Try.underlying22 ty5.inf (rfl : _ = rx.v) (rfl : _ = Value.int .i64 c) hax he (by decide) ?_
                refine L_loadS ty5 (rfl : _ = elemP rx.v c 1 0) hax he rfl (by decide) ?_
                intro u2 hu2
                obtain rfl := hu2.u8
                refine L_assign (rfl : _ = Value.int .u8 e.n) (by decide) ?_
                refine L_nil ⟨rfl, ?_⟩
                refine then_n ?_
                clear hax hrx hrx2 hrx3
                refine W_seq ?_
                have e0 := Ext.drew s.drew
                have hM := hM.ext e0
                have hE := hE.ext e0
                have hP := hP.mono e0.le
                obtain ⟨rx, hrx, hrx2, hrx3, hax⟩ := hM.r.idx_ hx
                obtain ⟨rz, hrz, hrz2, hrz3, haz⟩ := hM.r.idx_ hz
                refine W_seqd [0, 1, 2, 3, 4, 5, 6, 7, 8, 9, 10] mixed (by kernel_rfl) rfl ?_
                refine L_move g0 (by decide) ?_
                refine L_move g8 (by decide) ?_
                refine L_move g15 (by decide) ?_
                refine L_indexS Try.underlying24 tyRaw.inf (rfl : _ = vR) (rfl : _ = Value.int .i64 i) hM.r.outer hrx (by decide) ?_
                refine L_loadS tyRaw (rfl : _ = elemP vR i 1 0) hM.r.outer hrx rfl (by decide) ?_
                intro u1 hu1
                obtain rfl := hu1.raw
                refine L_move g8 (by decide) ?_
                refine L_load_int ty3 g12 hP (by decide) ?_
                refine L_indexS Try.underlying24 tyRaw.inf (rfl : _ = vR) (rfl : _ = Value.int .i64 c) hM.r.outer hrz (by decide) ?_
                refine L_loadS tyRaw (rfl : _ = elemP vR c 1 0) hM.r.outer hrz rfl (by decide) ?_
                intro u2 hu2
                obtain rfl := hu2.raw
                refine L_move (rfl : _ = Value.int .u8 e.n) (by decide) ?_
                refine L_calls_mut cal70 (args4 (rfl : _ = w0) (rfl : _ = rx.v) (rfl : _ = rz.v) (rfl : _ = Value.int .u8 e.n)) (check_field_add_ok N _ w0 a0 (h0.mono hE.le) s0.w.heap.size rx.v x hax rz.v z (Rd.of_arrs haz) (hM.r.rd hicn hrx2 hrz2 haz) e x' hx') (by decide) ?_
                intro v142 s3 t3 hx3
                have E3 : Ext s0 s3 := Tch.trans hE t3 (fun k hk => .inr (hax.lt hk).1)
                have M3 := hM.row hrx2 t3 hx3
                have P3 := hP.mono t3.le
                refine L_nil ⟨rfl, ?_⟩
                refine then_n ?_
                clear hax haz hrx hrx2 hrx3 hrz hrz2 hrz3 hx3 t3 e0 hM hE hP
                have hM := M3
                have hE := E3
                have hP := P3
                clear M3 E3 P3
                have e0 := Ext.drew s3
                have hM := hM.ext e0
                have hE := hE.ext e0
                have hP := hP.mono e0.le
                obtain ⟨rx, hrx, hrx2, hrx3, hax⟩ := hM.l.idx_ hy
                obtain ⟨rz, hrz, hrz2, hrz3, haz⟩ := hM.l.idx_ hu
                refine W_seqd [0, 1, 2, 3, 4, 5, 6, 7, 8, 9, 10] mixed (by kernel_rfl) rfl ?_
                refine L_move g0 (by decide) ?_
                refine L_move g9 (by decide) ?_
                refine L_move g15 (by decide) ?_
                refine L_indexS Try.underlying24 tyRaw.inf (rfl : _ = vL) (rfl : _ = Value.int .i64 i) hM.l.outer hrx (by decide) ?_
                refine L_loadS tyRaw (rfl : _ = elemP vL i 1 0) hM.l.outer hrx rfl (by decide) ?_
                intro u1 hu1
                obtain rfl := hu1.raw
                refine L_move g9 (by decide) ?_
                refine L_load_int ty3 g12 hP (by decide) ?_
                refine L_indexS Try.underlying24 tyRaw.inf (rfl : _ = vL) (rfl : _ = Value.int .i64 c) hM.l.outer hrz (by decide) ?_
                refine L_loadS tyRaw (rfl : _ = elemP vL c 1 0) hM.l.outer hrz rfl (by decide) ?_
                intro u2 hu2
                obtain rfl := hu2.raw
                refine L_move (rfl : _ = Value.int .u8 e.n) (by decide) ?_
                refine L_calls_mut cal70 (args4 (rfl : _ = w0) (rfl : _ = rx.v) (rfl : _ = rz.v) (rfl : _ = Value.int .u8 e.n)) (check_field_add_ok N _ w0 a0 (h0.mono hE.le) s0.w.heap.size rx.v y hax rz.v u (Rd.of_arrs haz) (hM.l.rd hicn hrx2 hrz2 haz) e y' hy') (by decide) ?_
                intro v142 s3 t3 hx3
                have E3 : Ext s0 s3 := Tch.trans hE t3 (fun k hk => .inr (hax.lt hk).1)
                have M3 := (hM.flip.row hrx2 t3 hx3).flip
                have P3 := hP.mono t3.le
                refine L_nil ⟨rfl, ?_⟩
                refine block_n ?_
                refine then_n ?_
                refine W_region ?_
                refine L_add g109 (rfl : _ = Value.int .i64 (1)) hin (by decide) ?_
                refine L_move (rfl : _ = Value.int .i64 (i + 1)) (by decide) ?_
                refine L_nil ?_
                exact then_n ⟨m, Nat.lt_succ_self _, s3, i + 1, _, _, rfl, E3, M3, P3, hi, g0, g7, g8, g9, g46, g47, g12, g108, rfl⟩
              · subst ht
                obtain ⟨hin, hi⟩ := chk_some hi
                refine W_skip ?_
                refine block_n ?_
                refine then_n ?_
                refine W_region ?_
                refine L_add g109 (rfl : _ = Value.int .i64 (1)) hin (by decide) ?_
                refine L_move (rfl : _ = Value.int .i64 (i + 1)) (by decide) ?_
                refine L_nil ?_
                exact then_n ⟨m, Nat.lt_succ_self _, s, i + 1, _, _, rfl, hE, hM, hP, hi, g0, g7, g8, g9, g46, g47, g12, g108, rfl⟩
            · have hi := ite_f hb hi
              obtain rfl := Option.some.inj hi
              refine W_exit ?_
              refine then_x ?_
              refine then_x ?_
              refine block_here ?_
              exact ⟨s, rfl, hE, hM, g0, g7, g8, g9, g46, g47⟩
        · clear M4 E4 P4 M3 E3 P3 hM hE hP g0 g7 g8 g9 g46 g47 g12 g13 ho2 hx3 hy4 t3 t4 hax hay
          rintro f w ⟨s, rfl, hE, hM, g0, g7, g8, g9, g46, g47⟩
          refine block_n ?_
          refine then_n ?_
          refine W_region ?_
          refine L_add g47 (rfl : _ = Value.int .i64 (1)) hc1 (by decide) ?_
          refine L_move (rfl : _ = Value.int .i64 (c + 1)) (by decide) ?_
          refine L_nil ?_
          exact then_n ⟨m, Nat.lt_succ_self _, s, c + 1, vsR, vsL, _, _, rfl, hE, hM, hfin, g0, g7, g8, g9, g46, rfl⟩
      · have hr := ite_f hb hr
        obtain rfl := Option.some.inj hr
        refine W_exit ?_
        refine then_x ?_
        refine then_x ?_
        refine block_here ?_
        exact then_n ⟨s, vsL, rfl, hE, hM.l, g9⟩
  · rintro f w ⟨s, vsL, rfl, hE, hL, g9⟩
    refine then_n ?_
    refine W_seq ?_
    refine W_region ?_
    refine L_move g9 (by decide) ?_
    refine L_assign (rfl : _ = vL) (by decide) ?_
    refine L_nil ?_
    refine then_n ?_
    refine W_ret ?_
    obtain ⟨s4, e4, t4, hv4⟩ := hL.freeze
    have hE4 : Ext s0 s4 := Tch.trans hE t4 (fun k hk => .inr (hL.lt hk).1)
    exact done1 (Or.inl rfl) Try.results38 rfl ⟨_, s4, rfl, e4, hE4, hv4⟩

def intOf (v : Option Value) : Int := match v with | some (.int _ n) => n | _ => 0
def isInt (k : IntKind) (v : Option Value) : Bool := match v with | some (.int k' n) => decide (k' = k) && decide (0 ≤ n) && decide (n < 256) | _ => false
theorem isInt_eq {k : IntKind} {v : Option Value} (h : isInt k v = true) : v = some (.int k (intOf v)) ∧ 0 ≤ intOf v ∧ intOf v < 256 := by
  unfold isInt at h
  split at h
  · simp only [Bool.and_eq_true, decide_eq_true_eq] at h
    obtain ⟨⟨rfl, h1⟩, h2⟩ := h
    exact ⟨rfl, h1, h2⟩
  · cases h
/-- What newField makes. -/
noncomputable def fieldT : Field := ⟨⟨(List.range 510).map fun k => ⟨intOf (Go.Proofs.Ytdaedcoolcicoaa.box37.get k)⟩⟩, ⟨(List.range 256).map fun k => intOf (Go.Proofs.Ytdaedcoolcicoaa.box37.get (510 + k))⟩⟩
theorem box_u8 : ((List.range 510).all fun k => isInt .u8 (Go.Proofs.Ytdaedcoolcicoaa.box37.get k)) = true := by kernel_rfl
theorem box_i64 : ((List.range 256).all fun k => isInt .i64 (Go.Proofs.Ytdaedcoolcicoaa.box37.get (510 + k))) = true := by kernel_rfl
noncomputable def check_newField (_N : Nat) : Option Field := some fieldT
theorem check_newField_ok (N : Nat) (s0 : St) (r : Field) (hr : check_newField N = some r) : Calls Try.prog 37 #[] s0.w (Ret s0 fun v s => Ptr s v r) := by
  obtain rfl := Option.some.inj hr
  have p1 : ∀ k, k < 510 → isInt .u8 (Go.Proofs.Ytdaedcoolcicoaa.box37.get k) = true := fun k hk => List.all_eq_true.1 box_u8 k (List.mem_range.2 hk)
  have p2 : ∀ k, k < 256 → isInt .i64 (Go.Proofs.Ytdaedcoolcicoaa.box37.get (510 + k)) = true := fun k hk => List.all_eq_true.1 box_i64 k (List.mem_range.2 hk)
  refine Calls.mono (Go.Proofs.Ytdaedcoolcicoaa.box37_calls s0.w) ?_
  rintro e w' ⟨i, rfl, hlow, hlt, hor, hb⟩
  obtain ⟨h1, h2, h3, h4, h5⟩ := hb
  obtain ⟨_, _, _, arr, el, hh, hsz, hn, hget⟩ := hor (fun _ => none)
  let s' : St := ⟨w', fun b => if b = i.c then i.d + 766 else s0.g b, fun b hb => by
    show (if b = i.c then i.d + 766 else s0.g b) = 0
    rw [if_neg (by omega)]
    exact s0.ok b (Nat.le_trans h4 hb)⟩
  have hg : ∀ k, k < s0.w.heap.size → s'.g k = s0.g k := fun k hk => if_neg (by omega)
  refine ⟨_, s', rfl, rfl, ⟨h1, h2, h3, h4, fun k hk _ => h5 k hk, fun k hk _ => hg k hk, le_of_blocks h5 (fun k hk => Nat.le_of_eq (hg k hk).symm)⟩, i.c, i.d, (List.range 510).map (fun k => Value.int .u8 (intOf (Go.Proofs.Ytdaedcoolcicoaa.box37.get k))) ++ (List.range 256).map (fun k => Value.int .i64 (intOf (Go.Proofs.Ytdaedcoolcicoaa.box37.get (510 + k)))), rfl, ⟨_, _, rfl, ?_, ?_⟩, ?_⟩
  · refine ⟨by simp [fieldT], by simp; rfl, fun v hv => ?_, fun j hj => ?_⟩
    · simp only [List.mem_map] at hv
      obtain ⟨k, _, rfl⟩ := hv
      rfl
    · simp only [fieldT, List.length_map, List.length_range] at hj
      show List.take 1 (List.drop (j * 1) _) = [_]
      rw [Nat.mul_one, List.drop_eq_getElem_cons (by simpa using hj)]
      simp [fieldT]
  · refine ⟨by simp [fieldT], by simp; rfl, fun v hv => ?_, fun j hj => ?_⟩
    · simp only [List.mem_map] at hv
      obtain ⟨k, _, rfl⟩ := hv
      rfl
    · simp only [fieldT, List.length_map, List.length_range] at hj
      show List.take 1 (List.drop (j * 1) _) = [_]
      rw [Nat.mul_one, List.drop_eq_getElem_cons (by simpa using hj)]
      simp [fieldT]
  · intro j hj
    simp only [List.length_append, List.length_map, List.length_range] at hj
    obtain ⟨v, v', g1, g2, g3⟩ := hget j hj
    have key : v' = ((List.range 510).map (fun k => Value.int .u8 (intOf (Go.Proofs.Ytdaedcoolcicoaa.box37.get k))) ++ (List.range 256).map (fun k => Value.int .i64 (intOf (Go.Proofs.Ytdaedcoolcicoaa.box37.get (510 + k)))))[j]'(by simp; omega) := by
      by_cases hj5 : j < 510
      · rw [List.getElem_append_left (by simpa using hj5)]
        simp only [List.getElem_map, List.getElem_range]
        have h := (isInt_eq (p1 j hj5)).1
        rw [g1] at h
        have h' := Option.some.inj h
        rw [← g1] at h'
        rw [h'] at g3
        cases g3; rfl
      · rw [List.getElem_append_right (by simpa using hj5)]
        simp only [List.getElem_map, List.getElem_range, List.length_map, List.length_range]
        have h := (isInt_eq (p2 (j - 510) (by omega))).1
        rw [show 510 + (j - 510) = j by omega] at h ⊢
        rw [g1] at h
        have h' := Option.some.inj h
        rw [← g1] at h'
        rw [h'] at g3
        cases g3; rfl
    refine ⟨?_, ?_⟩
    · simp only [World.cell?]
      show (match w'.heap[i.c]? with | some (.cells cur _ _) => cur[i.d + j]? | _ => none) = _
      rw [hh, Nat.add_comm i.d j]
      rw [← key]; exact g2
    · show i.d + j < if i.c = i.c then i.d + 766 else s0.g i.c
      rw [if_pos rfl]; omega

end Go.Arm
