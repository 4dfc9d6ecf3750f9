/- A part of the proof. -/
import Derived.Test.YtdaedcoolcicoaaGreatPrf
import Derived.Test.YtdaedcoolcicoaaGreatCoreU
namespace Go.Arm
open Go Go.RowKit Go.Proofs

theorem tyRaw : Ty Tryz.prog 23 RawV := ⟨by kernel_rfl, by kernel_rfl⟩
theorem tyzRaw : TyZ Tryz.prog 23 RawV 24 (.slice none 0 0) := ⟨tyRaw, by kernel_rfl, by kernel_rfl, by show 0 < 1; decide⟩
theorem flatU8 : Flat U8 := fun _ _ _ _ h => h
/-- A list whose elements are multiplied. -/
def scaleG (m : U8 → Option U8) : Nat → Int → List U8 → Option (List U8)
  | 0, _, _ => none
  | k + 1, i, l => if decide (i < (l.length : Int)) then
    Option.bind (idx l i) fun x => Option.bind (m x) fun z => chk (inR (i + 1)) <| scaleG m k (i + 1) (l.set i.toNat z)
    else some l
/-- A list, multiplied, is added to another one, over its length. -/
def addG (m : U8 → Option U8) (l : List U8) : Nat → Int → List U8 → Option (List U8)
  | 0, _, _ => none
  | k + 1, i, to => if decide (i < (l.length : Int)) then
    Option.bind (idx l i) fun y => Option.bind (idx to i) fun x => Option.bind (m y) fun z => chk (inR (i + 1)) <| addG m l k (i + 1) (to.set i.toNat ⟨xorK .u8 x.n z.n⟩)
    else some to
/-- The same, over the other one's length. -/
def addR (m : U8 → Option U8) (l : List U8) : Nat → Int → List U8 → Option (List U8)
  | 0, _, _ => none
  | k + 1, i, to => if decide (i < (to.length : Int)) then
    Option.bind (idx l i) fun y => Option.bind (idx to i) fun x => Option.bind (m y) fun z => chk (inR (i + 1)) <| addR m l k (i + 1) (to.set i.toNat ⟨xorK .u8 x.n z.n⟩)
    else some to
/-- What a block of own slices may be read beside another one. -/
theorem V_own {s : St} {B : Nat} {E : TypeId} {v u : Value} {xs ys : List U8} (h : V s v xs) (k : ArrS s B E u ys) : xs ≠ [] → ∀ b, inB v b → ¬ own u b := fun hne b hb hu => by
  have h1 := V_claimed h hne hb
  rw [k.unclaimed hu] at h1; omega

theorem check_field_add_ok (N : Nat) (s0 : St) (w0 : Value) (a0 : Field) (h0 : Ptr s0 w0 a0) (B : Nat) (w1 : Value) (a1 : List U8) (h1 : ArrS s0 B 5 w1 a1) (w2 : Value) (a2 : List U8) (h2 : Rd s0 w2 a2)
    (hd : a2 ≠ [] → ∀ b, inB w2 b → ¬ own w1 b) (a3 : U8) (r : List U8) (hr : addG (fun y => check_field_mul N a0 y a3) a2 N 0 a1 = some r) :
    Calls Tryz.prog 100 #[w0, w1, w2, .int .u8 a3.n] s0.w (RetM (own w1) s0 fun _ s => ArrS s B 5 w1 r) := by
  refine Calls_of (n := 28) (args := [w0, w1, w2, .int .u8 a3.n]) Tryz.func100 rfl rfl (by simp) ?_
  refine W_seq ?_
  refine W_region ?_
  refine L_move (rfl : _ = w2) (by decide) ?_
  refine L_lenRd Tryz.underlying23 (rfl : _ = w2) h2 (by decide) ?_
  refine L_move (rfl : _ = Value.int .i64 0) (by decide) ?_
  refine L_nil ?_
  refine then_n ?_
  refine W_cut (fun f w => ∃ (s : St), s.w = w ∧ Tch (own w1) s0 s ∧ ArrS s B 5 w1 r) ?_ ?_
  · refine W_block ?_
    refine W_loop (fun m f w => ∃ (s : St) (i : Int) (l : List U8), s.w = w ∧ Tch (own w1) s0 s ∧ ArrS s B 5 w1 l ∧ Rd s w2 a2 ∧ addG (fun y => check_field_mul N a0 y a3) a2 m i l = some r ∧ f 0 = w0 ∧ f 1 = w1 ∧ f 3 = Value.int .u8 a3.n ∧ f 10 = w2 ∧ f 11 = Value.int .i64 a2.length ∧ f 12 = Value.int .i64 i) N ⟨s0, 0, a1, rfl, Tch.refl _ _, h1, h2, hr, rfl, rfl, rfl, rfl, rfl, rfl⟩ ?_
    rintro m f w ⟨s, i, l, rfl, hE, hA, hR, hr, g0, g1, g3, g10, g11, gi⟩
    cases m with
    | zero => cases hr
    | succ m =>
      rw [addG] at hr
      refine W_seq ?_
      refine W_region ?_
      refine L_lss gi g11 (by decide) ?_
      refine L_nil ?_
      refine then_n ?_
      refine W_seq ?_
      refine W_cond _ (rfl : _ = Value.bool (decide (i < (a2.length : Int)))) (fun hb => ?_) (fun hb => ?_)
      · have hr := ite_t hb hr
        refine W_skip ?_
        refine then_n ?_
        refine W_seq ?_
        refine W_block ?_
        obtain ⟨y, hy, hr⟩ := bind_some hr
        obtain ⟨x, hx, hr⟩ := bind_some hr
        obtain ⟨z, hz, hr⟩ := bind_some hr
        obtain ⟨hc, hr⟩ := chk_some hr
        refine W_seq ?_
        refine W_region ?_
        refine L_move gi (by decide) ?_
        refine L_indexRd Tryz.underlying23 ty5.inf g10 gi hR hy (by decide) ?_
        intro q hq
        refine L_loadCU Tryz.underlying5 (rfl : _ = q) hq (by decide) ?_
        refine L_assign (rfl : _ = Value.int .i64 i) (by decide) ?_
        refine L_assign (rfl : _ = Value.int .u8 y.n) (by decide) ?_
        refine L_nil ?_
        refine then_n ?_
        refine W_cut (fun f w => ∃ (s3 : St), s3.w = w ∧ Tch (own w1) s s3 ∧ ArrS s3 B 5 w1 (l.set i.toNat ⟨xorK .u8 x.n z.n⟩) ∧ f 0 = w0 ∧ f 1 = w1 ∧ f 3 = Value.int .u8 a3.n ∧ f 10 = w2 ∧ f 11 = Value.int .i64 a2.length ∧ f 12 = Value.int .i64 i) ?_ ?_
        · have e0 := Ext.drew s
          refine W_seqd2 3 7 [0, 1, 2, 3, 4, 5, 6, 7, 8, 9, 10] [0, 1, 2, 4, 5, 6, 7, 3, 8, 9, 10] mixed (by kernel_rfl) rfl rfl ?_ ?_
          · refine L_move g1 (by decide) ?_
            refine L_move (rfl : _ = Value.int .i64 i) (by decide) ?_
            refine L_indexS Tryz.underlying23 ty5.inf (rfl : _ = w1) (rfl : _ = Value.int .i64 i) (hA.ext e0) hx (by decide) ?_
            refine L_loadS ty5 (rfl : _ = elemP w1 i 1 0) (hA.ext e0) hx rfl (by decide) ?_
            intro u hu
            obtain rfl := hu.u8
            refine L_move g0 (by decide) ?_
            refine L_move (rfl : _ = Value.int .u8 y.n) (by decide) ?_
            refine L_move g3 (by decide) ?_
            refine L_calls cal130 (args3 (rfl : _ = w0) (rfl : _ = Value.int .u8 y.n) (rfl : _ = Value.int .u8 a3.n)) (check_field_mul_ok N _ w0 a0 (h0.mono (hE.ext e0).le) y a3 z hz) (by decide) ?_
            intro v s1 e1 hv
            obtain rfl := hv.u8
            have e2 := e0.trans e1
            refine L_xorK (rfl : _ = Value.int .u8 x.n) (rfl : _ = Value.int .u8 z.n) (by decide) ?_
            refine L_indexS Tryz.underlying23 ty5.inf (rfl : _ = w1) (rfl : _ = Value.int .i64 i) (hA.ext e2) hx (by decide) ?_
            refine L_storeS (z := (⟨xorK .u8 x.n z.n⟩ : U8)) ty5 (rfl : _ = elemP w1 i 1 0) (rfl : _ = Value.int .u8 (xorK .u8 x.n z.n)) Vu8 (hA.ext e2) hx rfl ?_
            intro s3 t3 hA3
            have t4 : Tch (own w1) s s3 := Tch.trans (Ext.to e2) t3 (fun _ h => .inl h)
            exact L_nil ⟨rfl, then_n ⟨s3, rfl, t4, hA3, g0, g1, g3, g10, g11, gi⟩⟩
          · refine L_move g1 (by decide) ?_
            refine L_move (rfl : _ = Value.int .i64 i) (by decide) ?_
            refine L_indexS Tryz.underlying23 ty5.inf (rfl : _ = w1) (rfl : _ = Value.int .i64 i) (hA.ext e0) hx (by decide) ?_
            refine L_move g0 (by decide) ?_
            refine L_move (rfl : _ = Value.int .u8 y.n) (by decide) ?_
            refine L_move g3 (by decide) ?_
            refine L_calls cal130 (args3 (rfl : _ = w0) (rfl : _ = Value.int .u8 y.n) (rfl : _ = Value.int .u8 a3.n)) (check_field_mul_ok N _ w0 a0 (h0.mono (hE.ext e0).le) y a3 z hz) (by decide) ?_
            intro v s1 e1 hv
            obtain rfl := hv.u8
            have e2 := e0.trans e1
            refine L_loadS ty5 (rfl : _ = elemP w1 i 1 0) (hA.ext e2) hx rfl (by decide) ?_
            intro u hu
            obtain rfl := hu.u8
            refine L_xorK (rfl : _ = Value.int .u8 x.n) (rfl : _ = Value.int .u8 z.n) (by decide) ?_
            refine L_indexS Tryz.underlying23 ty5.inf (rfl : _ = w1) (rfl : _ = Value.int .i64 i) (hA.ext e2) hx (by decide) ?_
            refine L_storeS (z := (⟨xorK .u8 x.n z.n⟩ : U8)) ty5 (rfl : _ = elemP w1 i 1 0) (rfl : _ = Value.int .u8 (xorK .u8 x.n z.n)) Vu8 (hA.ext e2) hx rfl ?_
            intro s3 t3 hA3
            have t4 : Tch (own w1) s s3 := Tch.trans (Ext.to e2) t3 (fun _ h => .inl h)
            exact L_nil ⟨rfl, then_n ⟨s3, rfl, t4, hA3, g0, g1, g3, g10, g11, gi⟩⟩
        · rintro f w ⟨s3, rfl, t3, hA3, g0, g1, g3, g10, g11, gi⟩
          refine block_n ?_
          refine then_n ?_
          refine W_region ?_
          refine L_add gi (rfl : _ = Value.int .i64 (1)) hc (by decide) ?_
          refine L_move (rfl : _ = Value.int .i64 (i + 1)) (by decide) ?_
          refine L_nil ?_
          exact then_n ⟨m, Nat.lt_succ_self _, s3, i + 1, _, rfl, Tch.trans hE t3 (fun _ h => .inl h), hA3, hR.tch t3 hd, hr, g0, g1, g3, g10, g11, rfl⟩
      · have hr := ite_f hb hr
        refine W_exit ?_
        refine then_x ?_
        refine then_x ?_
        refine block_here ?_
        obtain rfl := Option.some.inj hr
        exact ⟨s, rfl, hE, hA⟩
  · rintro f w ⟨s, rfl, hE, hA⟩
    exact done0 (Or.inr rfl) Tryz.results100 ⟨_, s, rfl, rfl, hE, hA⟩

/-- The sum of blocks, each multiplied. -/
def blockL (N : Nat) (a0 : Field) (data : List (List U8)) (row : List U8) : Nat → Int → List U8 → Option (List U8)
  | 0, _, _ => none
  | k + 1, i, out => if decide (i < (row.length : Int)) then
    Option.bind (idx row i) fun y => Option.bind (idx data i) fun d => Option.bind (addG (fun z => check_field_mul N a0 z y) d N 0 out) fun x => chk (inR (i + 1)) <| blockL N a0 data row k (i + 1) x
    else some out
def check_field_block (N : Nat) (a0 : Field) (a1 : Int) (a2 : List (List U8)) : Option (List U8) :=
  Option.bind (idx a2 0) fun d => chk ((0 : Int) ≤ (d.length : Int) ∧ (1 : Int) * (d.length : Int) ≤ 281474976710656 ∧ (d.length : Int) ≤ 9223372036854775807) <|
  Option.bind (check_field_row N a0 a1 (a2.length : Int)) fun row => blockL N a0 a2 row N 0 (List.replicate ((d.length : Int)).toNat (⟨0⟩ : U8))
theorem check_field_block_ok (N : Nat) (s0 : St) (w0 : Value) (a0 : Field) (h0 : Ptr s0 w0 a0) (a1 : Int) (w2 : Value) (a2 : List (List U8)) (h2 : V s0 w2 a2) (r : List U8) (hr : check_field_block N a0 a1 a2 = some r) :
    Calls Tryz.prog 51 #[w0, .int .i64 a1, w2] s0.w (Ret s0 fun v s => V s v r) := by
  unfold check_field_block at hr
  refine Calls_of (n := 36) (args := [w0, .int .i64 a1, w2]) Tryz.func51 rfl rfl (by simp) ?_
  refine W_seq ?_
  refine W_region ?_
  refine L_assign (rfl : _ = Value.slice none 0 0) (by decide) ?_
  refine L_nil ?_
  refine then_n ?_
  refine W_seq ?_
  refine W_region ?_
  obtain ⟨d, hd, hr⟩ := bind_some hr
  obtain ⟨hc, hr⟩ := chk_some hr
  obtain ⟨row, hrow, hr⟩ := bind_some hr
  refine L_move (rfl : _ = w2) (by decide) ?_
  refine L_index Tryz.underlying22 ty23.inf (rfl : _ = w2) h2 (rfl : _ = Value.int .i64 0) hd (by decide) ?_
  intro p1 hp1
  refine L_load ty23 (rfl : _ = p1) hp1 (by decide) ?_
  intro v1 hv1
  refine L_len Tryz.underlying23 (rfl : _ = v1) hv1 (by decide) ?_
  refine L_makeArr (x0 := (⟨0⟩ : U8)) Tryz.underlying23 tyz5 (rfl : _ = Value.int .i64 (d.length : Int)) hc.1 hc.2.1 hc.2.2 (fun _ => rfl) (by decide) ?_
  intro s1 b1 e1 hb1 hA0
  have hA1 := hA0.toS hb1
  generalize hvo : Value.slice (some ⟨b1, 0, none⟩) ((d.length : Int)).toNat ((d.length : Int)).toNat = vo at hA1 ⊢
  refine L_assign (rfl : _ = vo) (by decide) ?_
  refine L_nil ?_
  refine then_n ?_
  refine W_seq ?_
  refine W_seq ?_
  refine W_region ?_
  refine L_move (rfl : _ = w0) (by decide) ?_
  refine L_move (rfl : _ = Value.int .i64 a1) (by decide) ?_
  refine L_move (rfl : _ = w2) (by decide) ?_
  refine L_len Tryz.underlying22 (rfl : _ = w2) h2 (by decide) ?_
  refine L_calls cal99 (args3 (rfl : _ = w0) (rfl : _ = Value.int .i64 a1) (rfl : _ = Value.int .i64 (a2.length : Int))) (check_field_row_ok N s1 w0 a0 (h0.mono e1.le) a1 (a2.length : Int) row hrow) (by decide) ?_
  intro v19 s2 e2 hv19
  have hA2 := hA1.ext e2
  have E2 : Ext s0 s2 := e1.trans e2
  refine L_len Tryz.underlying23 (rfl : _ = v19) hv19 (by decide) ?_
  refine L_move (rfl : _ = Value.int .i64 0) (by decide) ?_
  refine L_nil ?_
  refine then_n ?_
  refine W_cut (fun f w => ∃ (s : St), s.w = w ∧ Ext s0 s ∧ ArrS s s0.w.heap.size 5 vo r ∧ f 7 = vo) ?_ ?_
  · refine W_block ?_
    refine W_loop (fun m f w => ∃ (s : St) (i : Int) (l : List U8), s.w = w ∧ Ext s0 s ∧ ArrS s s0.w.heap.size 5 vo l ∧ V s v19 row ∧ blockL N a0 a2 row m i l = some r ∧ f 0 = w0 ∧ f 2 = w2 ∧ f 7 = vo ∧ f 19 = v19 ∧ f 20 = Value.int .i64 (row.length : Int) ∧ f 21 = Value.int .i64 i) N ⟨s2, 0, _, rfl, E2, hA2, hv19, hr, rfl, rfl, rfl, rfl, rfl, rfl⟩ ?_
    rintro m f w ⟨s, i, l, rfl, hE, hA, hR, hr, g0, g2, g7, g19, g20, gi⟩
    cases m with
    | zero => cases hr
    | succ m =>
      rw [blockL] at hr
      refine W_seq ?_
      refine W_region ?_
      refine L_lss gi g20 (by decide) ?_
      refine L_nil ?_
      refine then_n ?_
      refine W_seq ?_
      refine W_cond _ (rfl : _ = Value.bool (decide (i < (row.length : Int)))) (fun hb => ?_) (fun hb => ?_)
      · have hr := ite_t hb hr
        refine W_skip ?_
        refine then_n ?_
        refine W_seq ?_
        refine W_block ?_
        obtain ⟨y, hy, hr⟩ := bind_some hr
        obtain ⟨e, he, hr⟩ := bind_some hr
        obtain ⟨x, hx, hr⟩ := bind_some hr
        obtain ⟨hc, hr⟩ := chk_some hr
        refine W_seq ?_
        refine W_region ?_
        refine L_move gi (by decide) ?_
        refine L_index Tryz.underlying23 ty5.inf g19 hR gi hy (by decide) ?_
        intro q hq
        refine L_load_u8 ty5 (rfl : _ = q) hq (by decide) ?_
        refine L_assign (rfl : _ = Value.int .i64 i) (by decide) ?_
        refine L_assign (rfl : _ = Value.int .u8 y.n) (by decide) ?_
        refine L_nil ?_
        refine then_n ?_
        refine W_region ?_
        refine L_move g0 (by decide) ?_
        refine L_move g7 (by decide) ?_
        refine L_move g2 (by decide) ?_
        refine L_move (rfl : _ = Value.int .i64 i) (by decide) ?_
        refine L_index Tryz.underlying22 ty23.inf (rfl : _ = w2) (h2.mono hE.le) (rfl : _ = Value.int .i64 i) he (by decide) ?_
        intro p3 hp3
        refine L_load ty23 (rfl : _ = p3) hp3 (by decide) ?_
        intro v3 hv3
        refine L_move (rfl : _ = Value.int .u8 y.n) (by decide) ?_
        refine L_calls_mut cal100 (args4 (rfl : _ = w0) (rfl : _ = vo) (rfl : _ = v3) (rfl : _ = Value.int .u8 y.n)) (check_field_add_ok N s w0 a0 (h0.mono hE.le) s0.w.heap.size vo l hA v3 e (Rd.of_V hv3) (V_own hv3 hA) y x hx) (by decide) ?_
        intro v4 s3 t3 hA3
        have hE3 : Ext s0 s3 := Tch.trans hE t3 (fun k hk => .inr (hA.lt hk).1)
        refine L_nil ?_
        refine block_n ?_
        refine then_n ?_
        refine W_region ?_
        refine L_add gi (rfl : _ = Value.int .i64 (1)) hc (by decide) ?_
        refine L_move (rfl : _ = Value.int .i64 (i + 1)) (by decide) ?_
        refine L_nil ?_
        exact then_n ⟨m, Nat.lt_succ_self _, s3, i + 1, x, rfl, hE3, hA3, hR.mono t3.le, hr, g0, g2, g7, g19, g20, rfl⟩
      · have hr := ite_f hb hr
        refine W_exit ?_
        refine then_x ?_
        refine then_x ?_
        refine block_here ?_
        obtain rfl := Option.some.inj hr
        exact then_n ⟨s, rfl, hE, hA, g7⟩
  · rintro f w ⟨s, rfl, hE, hA, g7⟩
    refine then_n ?_
    refine W_seq ?_
    refine W_region ?_
    refine L_move g7 (by decide) ?_
    refine L_assign (rfl : _ = vo) (by decide) ?_
    refine L_nil ?_
    refine then_n ?_
    refine W_ret ?_
    obtain ⟨s4, e4, t4, hv4⟩ := hA.freeze
    have hE4 : Ext s0 s4 := Tch.trans hE t4 (fun k hk => .inr (hA.lt hk).1)
    exact done1 (Or.inl rfl) Tryz.results51 rfl ⟨_, s4, rfl, e4, hE4, hv4⟩

def swapG (R : List (List U8)) (p c : Int) : Option (List (List U8)) :=
  Option.bind (idx R p) fun x => Option.bind (idx R c) fun y => some ((R.set c.toNat x).set p.toNat y)
def initG (N : Nat) (a0 : Field) (ws : List Int) (data : List (List U8)) (k : Int) : Nat → Int → List (List U8) → List (List U8) → Option (List (List U8) × List (List U8))
  | 0, _, _, _ => none
  | m + 1, i, R, L => if decide (i < (ws.length : Int)) then
    Option.bind (idx ws i) fun w => Option.bind (check_field_row N a0 w k) fun x => Option.bind (idx data i) fun d => Option.bind (slices_Clone_Lbyte_byte N d) fun c =>
    Option.bind (idx R i) fun _ => Option.bind (idx L i) fun _ => chk (inR (i + 1)) <| initG N a0 ws data k m (i + 1) (R.set i.toNat x) (L.set i.toNat c)
    else some (R, L)
def elimG (N : Nat) (a0 : Field) (c k : Int) : Nat → Int → List (List U8) → List (List U8) → Option (List (List U8) × List (List U8))
  | 0, _, _, _ => none
  | m + 1, r, R, L => if decide (r < k) then
    Option.bind (if !decide (r = c) then Option.bind (idx R r) fun x => Option.bind (idx x c) fun e => some (!decide (e.n = 0)) else some false) fun b =>
    if b then
      Option.bind (idx R r) fun x => Option.bind (idx x c) fun e => Option.bind (idx R c) fun z => Option.bind (addG (fun y => check_field_mul N a0 y e) z N 0 x) fun x' =>
      Option.bind (idx L r) fun y => Option.bind (idx L c) fun u => Option.bind (addG (fun q => check_field_mul N a0 q e) u N 0 y) fun y' =>
      chk (inR (r + 1)) <| elimG N a0 c k m (r + 1) (R.set r.toNat x') (L.set r.toNat y')
    else chk (inR (r + 1)) <| elimG N a0 c k m (r + 1) R L
    else some (R, L)
def stepG (N : Nat) (a0 : Field) (k : Int) : Nat → Int → List (List U8) → List (List U8) → Option (List (List U8))
  | 0, _, _, _ => none
  | m + 1, c, R, L => if decide (c < k) then
    Option.bind (cut R c (R.length : Int)) fun T => Option.bind (slices_IndexFunc_LLbyte_Lbyte N T (fun x => check_field_solve_1 N x c)) fun q => chk (inR (c + q)) <|
    Option.bind (swapG R (c + q) c) fun R1 => Option.bind (swapG L (c + q) c) fun L1 =>
    Option.bind (idx R1 c) fun x => Option.bind (idx x c) fun e => Option.bind (check_field_inverse N a0 e) fun e' =>
    Option.bind (scaleG (fun y => check_field_mul N a0 y e') N 0 x) fun x' =>
    Option.bind (idx L1 c) fun y => Option.bind (scaleG (fun z => check_field_mul N a0 z e') N 0 y) fun y' =>
    Option.bind (elimG N a0 c k N 0 (R1.set c.toNat x') (L1.set c.toNat y')) fun o => chk (inR (c + 1)) <| stepG N a0 k m (c + 1) o.1 o.2
    else some L
def check_field_solve (N : Nat) (a0 : Field) (a1 : List Int) (a2 : List (List U8)) : Option (List (List U8)) :=
  chk ((0 : Int) ≤ (a1.length : Int) ∧ (24 : Int) * (a1.length : Int) ≤ 281474976710656 ∧ (a1.length : Int) ≤ 9223372036854775807) <|
  Option.bind (initG N a0 a1 a2 (a1.length : Int) N 0 (List.replicate ((a1.length : Int)).toNat []) (List.replicate ((a1.length : Int)).toNat [])) fun o => stepG N a0 (a1.length : Int) N 0 o.1 o.2

def initR (N : Nat) (ws : List Int) (data : List (List U8)) (k : Int) : Nat → Int → List (List U8) → List (List U8) → Option (List (List U8) × List (List U8))
  | 0, _, _, _ => none
  | m + 1, i, R, L => if decide (i < k) then
    Option.bind (idx ws i) fun w => Option.bind (ref14_weights N w k) fun x => chk ((R.length + 1) * 24 ≤ 140737488355328 ∧ R.length + 1 ≤ maxLen) <| Option.bind (idx data i) fun d =>
    chk ((([] : List U8).length + d.length) * 1 ≤ 140737488355328 ∧ ([] : List U8).length + d.length ≤ maxLen) <| chk ((L.length + 1) * 24 ≤ 140737488355328 ∧ L.length + 1 ≤ maxLen) <| chk (inR (i + 1)) <|
    initR N ws data k m (i + 1) (R ++ [x]) (L ++ [d])
    else some (R, L)
def elimR (N : Nat) (c k : Int) : Nat → Int → List (List U8) → List (List U8) → Option (List (List U8) × List (List U8))
  | 0, _, _, _ => none
  | m + 1, r, R, L => if decide (r < k) then
    if !decide (r = c) then
      Option.bind (idx R r) fun x => Option.bind (idx x c) fun e => Option.bind (idx R c) fun z => Option.bind (addR (fun y => ref14_times N y e) z N 0 x) fun x' =>
      Option.bind (idx L r) fun y => Option.bind (idx L c) fun u => Option.bind (addR (fun q => ref14_times N q e) u N 0 y) fun y' =>
      chk (inR (r + 1)) <| elimR N c k m (r + 1) (R.set r.toNat x') (L.set r.toNat y')
    else chk (inR (r + 1)) <| elimR N c k m (r + 1) R L
    else some (R, L)
def findR (R : List (List U8)) (c : Int) : Nat → Int → Option Int
  | 0, _ => none
  | m + 1, p => Option.bind (idx R p) fun x => Option.bind (idx x c) fun e => if decide (e.n = 0) then chk (inR (p + 1)) <| findR R c m (p + 1) else some p
def stepR (N : Nat) (k : Int) : Nat → Int → List (List U8) → List (List U8) → Option (List (List U8))
  | 0, _, _, _ => none
  | m + 1, c, R, L => if decide (c < k) then
    Option.bind (findR R c N c) fun q =>
    Option.bind (swapG R q c) fun R1 => Option.bind (swapG L q c) fun L1 =>
    Option.bind (idx R1 c) fun x => Option.bind (idx x c) fun e => Option.bind (ref14_inverse N e) fun e' =>
    Option.bind (scaleG (fun y => ref14_times N y e') N 0 x) fun x' =>
    Option.bind (idx L1 c) fun y => Option.bind (scaleG (fun z => ref14_times N z e') N 0 y) fun y' =>
    Option.bind (elimR N c k N 0 (R1.set c.toNat x') (L1.set c.toNat y')) fun o => chk (inR (c + 1)) <| stepR N k m (c + 1) o.1 o.2
    else some L
def ref14_solved (N : Nat) (a0 : List Int) (a1 : List (List U8)) : Option (List (List U8)) :=
  Option.bind (initR N a0 a1 (a1.length : Int) N 0 [] []) fun o => stepR N (a1.length : Int) N 0 o.1 o.2

def intOf (v : Option Value) : Int := match v with | some (.int _ n) => n | _ => 0
def isInt (k : IntKind) (v : Option Value) : Bool := match v with | some (.int k' n) => decide (k' = k) && decide (0 ≤ n) && decide (n < 256) | _ => false
theorem isInt_eq {k : IntKind} {v : Option Value} (h : isInt k v = true) : v = some (.int k (intOf v)) ∧ 0 ≤ intOf v ∧ intOf v < 256 := by
  unfold isInt at h
  split at h
  · simp only [Bool.and_eq_true, decide_eq_true_eq] at h
    obtain ⟨⟨rfl, h1⟩, h2⟩ := h
    exact ⟨rfl, h1, h2⟩
  · cases h
/-- What newField makes. -/
noncomputable def fieldT : Field := ⟨⟨(List.range 510).map fun k => ⟨intOf (Go.Proofs.YtdaedcoolcicoaaGreat.box50.get k)⟩⟩, ⟨(List.range 256).map fun k => intOf (Go.Proofs.YtdaedcoolcicoaaGreat.box50.get (510 + k))⟩⟩
theorem box_u8 : ((List.range 510).all fun k => isInt .u8 (Go.Proofs.YtdaedcoolcicoaaGreat.box50.get k)) = true := by kernel_rfl
theorem box_i64 : ((List.range 256).all fun k => isInt .i64 (Go.Proofs.YtdaedcoolcicoaaGreat.box50.get (510 + k))) = true := by kernel_rfl
noncomputable def check_newField (_N : Nat) : Option Field := some fieldT
theorem check_newField_ok (N : Nat) (s0 : St) (r : Field) (hr : check_newField N = some r) : Calls Tryz.prog 50 #[] s0.w (Ret s0 fun v s => Ptr s v r) := by
  obtain rfl := Option.some.inj hr
  have p1 : ∀ k, k < 510 → isInt .u8 (Go.Proofs.YtdaedcoolcicoaaGreat.box50.get k) = true := fun k hk => List.all_eq_true.1 box_u8 k (List.mem_range.2 hk)
  have p2 : ∀ k, k < 256 → isInt .i64 (Go.Proofs.YtdaedcoolcicoaaGreat.box50.get (510 + k)) = true := fun k hk => List.all_eq_true.1 box_i64 k (List.mem_range.2 hk)
  refine Calls.mono (Go.Proofs.YtdaedcoolcicoaaGreat.box50_calls s0.w) ?_
  rintro e w' ⟨i, rfl, hlow, hlt, hor, hb⟩
  obtain ⟨h1, h2, h3, h4, h5⟩ := hb
  obtain ⟨_, _, _, arr, el, hh, hsz, hn, hget⟩ := hor (fun _ => none)
  let s' : St := ⟨w', fun b => if b = i.c then i.d + 766 else s0.g b, fun b hb => by
    show (if b = i.c then i.d + 766 else s0.g b) = 0
    rw [if_neg (by omega)]
    exact s0.ok b (Nat.le_trans h4 hb)⟩
  have hg : ∀ k, k < s0.w.heap.size → s'.g k = s0.g k := fun k hk => if_neg (by omega)
  refine ⟨_, s', rfl, rfl, ⟨h1, h2, h3, h4, fun k hk _ => h5 k hk, fun k hk _ => hg k hk, le_of_blocks h5 (fun k hk => Nat.le_of_eq (hg k hk).symm)⟩, i.c, i.d, (List.range 510).map (fun k => Value.int .u8 (intOf (Go.Proofs.YtdaedcoolcicoaaGreat.box50.get k))) ++ (List.range 256).map (fun k => Value.int .i64 (intOf (Go.Proofs.YtdaedcoolcicoaaGreat.box50.get (510 + k)))), rfl, ⟨_, _, rfl, ?_, ?_⟩, ?_⟩
  · refine ⟨by simp [fieldT], by simp; rfl, fun v hv => ?_, fun j hj => ?_⟩
    · simp only [List.mem_map] at hv
      obtain ⟨k, _, rfl⟩ := hv
      rfl
    · simp only [fieldT, List.length_map, List.length_range] at hj
      show List.take 1 (List.drop (j * 1) _) = [_]
      rw [Nat.mul_one, List.drop_eq_getElem_cons (by simpa using hj)]
      simp [fieldT]
  · refine ⟨by simp [fieldT], by simp; rfl, fun v hv => ?_, fun j hj => ?_⟩
    · simp only [List.mem_map] at hv
      obtain ⟨k, _, rfl⟩ := hv
      rfl
    · simp only [fieldT, List.length_map, List.length_range] at hj
      show List.take 1 (List.drop (j * 1) _) = [_]
      rw [Nat.mul_one, List.drop_eq_getElem_cons (by simpa using hj)]
      simp [fieldT]
  · intro j hj
    simp only [List.length_append, List.length_map, List.length_range] at hj
    obtain ⟨v, v', g1, g2, g3⟩ := hget j hj
    have key : v' = ((List.range 510).map (fun k => Value.int .u8 (intOf (Go.Proofs.YtdaedcoolcicoaaGreat.box50.get k))) ++ (List.range 256).map (fun k => Value.int .i64 (intOf (Go.Proofs.YtdaedcoolcicoaaGreat.box50.get (510 + k)))))[j]'(by simp; omega) := by
      by_cases hj5 : j < 510
      · rw [List.getElem_append_left (by simpa using hj5)]
        simp only [List.getElem_map, List.getElem_range]
        have h := (isInt_eq (p1 j hj5)).1
        rw [g1] at h
        have h' := Option.some.inj h
        rw [← g1] at h'
        rw [h'] at g3
        cases g3; rfl
      · rw [List.getElem_append_right (by simpa using hj5)]
        simp only [List.getElem_map, List.getElem_range, List.length_map, List.length_range]
        have h := (isInt_eq (p2 (j - 510) (by omega))).1
        rw [show 510 + (j - 510) = j by omega] at h ⊢
        rw [g1] at h
        have h' := Option.some.inj h
        rw [← g1] at h'
        rw [h'] at g3
        cases g3; rfl
    refine ⟨?_, ?_⟩
    · simp only [World.cell?]
      show (match w'.heap[i.c]? with | some (.cells cur _ _) => cur[i.d + j]? | _ => none) = _
      rw [hh, Nat.add_comm i.d j]
      rw [← key]; exact g2
    · show i.d + j < if i.c = i.c then i.d + 766 else s0.g i.c
      rw [if_pos rfl]; omega

end Go.Arm
