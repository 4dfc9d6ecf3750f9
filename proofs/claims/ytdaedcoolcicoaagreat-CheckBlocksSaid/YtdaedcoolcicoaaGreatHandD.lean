/- A part of the proof. -/
import Derived.Test.YtdaedcoolcicoaaGreatPure2
import Derived.Test.YtdaedcoolcicoaaGreatCoreU
namespace Go.Arm
open Go Go.RowKit Go.Proofs
noncomputable section

theorem calD_it : Callee Tryz.prog 103 := ⟨_, Tryz.func103, by kernel_rfl, by kernel_rfl⟩
theorem calD_ch : Callee Tryz.prog 54 := ⟨_, Tryz.func54, by kernel_rfl, by kernel_rfl⟩
theorem calD_pa : Callee Tryz.prog 12 := ⟨_, Tryz.func12, by kernel_rfl, by kernel_rfl⟩
theorem calD_cl : Callee Tryz.prog 55 := ⟨_, Tryz.func55, by kernel_rfl, by kernel_rfl⟩
theorem tyN3 : Ty Tryz.prog 3 Int := ⟨by kernel_rfl, by kernel_rfl⟩
theorem tyB3 : Ty Tryz.prog 23 (List U8) := ⟨by kernel_rfl, by kernel_rfl⟩
theorem tyRawV : Ty Tryz.prog 22 RawV := ⟨by kernel_rfl, by kernel_rfl⟩
theorem mixedD : Tryz.prog.follows .mixedOrders = true := by kernel_rfl

/-- slices.Chunk: the iterator's value. -/
theorem chunk_ok (s0 : St) (w0 : Value) (xs : List U8) (h0 : V s0 w0 xs) (k : Int) (hk : 1 ≤ k) :
    Calls Tryz.prog 54 #[w0, .int .i64 k] s0.w (Ret s0 fun v s => ∃ a b, v = .func (.func 103) #[] #[a, b] ∧ Ptr s a xs ∧ Ptr s b k) := by
  refine Calls_of (n := 9) (args := [w0, .int .i64 k]) Tryz.func54 rfl rfl (by simp) ?_
  refine W_seq ?_
  refine W_region ?_
  refine L_box (rfl : _ = w0) h0 (by decide) ?_
  intro s1 a e1 ha
  refine L_box (s := s1) (y := k) (rfl : _ = Value.int .i64 k) Vint (by decide) ?_
  intro s2 b e2 hb
  have ha2 := ha.mono e2.le
  refine L_assign (rfl : _ = Value.nilFunc) (by decide) ?_
  refine L_nil ?_
  refine then_n ?_
  refine W_seq ?_
  refine W_seq ?_
  refine W_region ?_
  refine L_load tyN3 (rfl : _ = b) hb (by decide) ?_
  intro v hv
  obtain rfl := hv.int
  refine L_lss (rfl : _ = Value.int .i64 k) (rfl : _ = Value.int .i64 1) (by decide) ?_
  refine L_nil ?_
  refine then_n ?_
  refine W_cond _ (rfl : _ = Value.bool (decide (k < 1))) (fun hb => ?_) (fun _ => ?_)
  · exact absurd (of_decide_eq_true hb) (by omega)
  refine W_skip ?_
  refine then_n ?_
  refine W_seq ?_
  refine W_region ?_
  refine L_makeFunc (args2 (rfl : _ = a) (rfl : _ = b)) (by decide) ?_
  refine L_assign (rfl : _ = Value.func (.func 103) #[] #[a, b]) (by decide) ?_
  refine L_nil ?_
  refine then_n ?_
  refine W_ret ?_
  exact done1 (Or.inl rfl) Tryz.results54 rfl ⟨_, _, rfl, rfl, e1.trans e2, a, b, rfl, ha2, hb⟩

/-- The pieces, cloned, one after the other. -/
def chunkG (N : Nat) (xs : List U8) (k : Int) : Nat → Int → List (List U8) → Option (List (List U8))
  | 0, _, _ => none
  | m + 1, i, pre => if decide (i < (xs.length : Int)) then
    Option.bind (cut xs i (xs.length : Int)) fun rest => chk (inR (i + min k (rest.length : Int))) <|
    Option.bind (cut xs i (i + min k (rest.length : Int))) fun x => Option.bind (slices_Clone_Lbyte_byte N x) fun y =>
    chk ((pre.length + ([y] : List (List U8)).length) * 24 ≤ 140737488355328 ∧ pre.length + ([y] : List (List U8)).length ≤ maxLen) <|
    chk (inR (i + k)) <| chunkG N xs k m (i + k) (pre ++ [y])
    else some pre

/-- The iterator, from what each round does. -/
theorem iter_ok (N : Nat) (sA : St) (l : Nat) (r : Loop) (J : List (List U8) → St → Prop) (p q : Value) (xs : List U8) (k : Int) (hp : Ptr sA p xs) (hq : Ptr sA q k) (h1 : r.params.size = 1)
    (hJ0 : J [] sA) (hJl : ∀ pre s, J pre s → s.w.heap[l]? = some (.loop r)) (hJe : ∀ pre s s', J pre s → Ext s s' → J pre s')
    (hround : ∀ pre s v x y, J pre s → Le sA s → V s v x → slices_Clone_Lbyte_byte N x = some y → ((pre.length + ([y] : List (List U8)).length) * 24 ≤ 140737488355328 ∧ pre.length + ([y] : List (List U8)).length ≤ maxLen) →
      RoundIn (fenceAt none) 0 Tryz.prog l r.fn ((r.params.zip #[v]).foldl (fun tmps (t, a) => tmps.setIfInBounds t a) r.tmps) r.assign r.body s.w fun e w' => e = .returned (.bool true) ∧ ∃ s', s'.w = w' ∧ Le s s' ∧ J (pre ++ [y]) s')
    (out : List (List U8)) (ho : chunkG N xs k N 0 [] = some out) :
    Calls Tryz.prog 103 #[.func (.yield l) #[] #[], p, q] sA.w fun e w' => ∃ s', e = .returned (.tuple #[]) ∧ s'.w = w' ∧ Le sA s' ∧ J out s' := by
  refine Calls_of (n := 31) (args := [.func (.yield l) #[] #[], p, q]) Tryz.func103 rfl rfl (by simp) ?_
  refine W_seq ?_
  refine W_region ?_
  refine L_assign (rfl : _ = Value.int .i64 0) (by decide) ?_
  refine L_nil ?_
  refine then_n ?_
  refine W_block ?_
  refine W_loop (fun m f w => ∃ (s : St) (i : Int) (pre : List (List U8)), s.w = w ∧ Le sA s ∧ J pre s ∧ chunkG N xs k m i pre = some out ∧ f 0 = .func (.yield l) #[] #[] ∧ f 1 = p ∧ f 2 = q ∧ f 4 = .int .i64 i) N ⟨sA, 0, [], rfl, Le.refl _, hJ0, ho, rfl, rfl, rfl, rfl⟩ ?_
  rintro m f w ⟨s, i, pre, rfl, hL, hJ, hr, g0, g1, g2, g4⟩
  cases m with
  | zero => cases hr
  | succ m =>
    rw [chunkG] at hr
    refine W_seq ?_
    refine W_seq ?_
    refine W_region ?_
    refine L_move g4 (by decide) ?_
    refine L_load tyB3 g1 (hp.mono hL) (by decide) ?_
    intro v1 hv1
    refine L_len Tryz.underlying23 (rfl : _ = v1) hv1 (by decide) ?_
    refine L_lss (rfl : _ = Value.int .i64 i) (rfl : _ = Value.int .i64 (xs.length : Int)) (by decide) ?_
    refine L_nil ?_
    refine then_n ?_
    refine W_cond _ (rfl : _ = Value.bool (decide (i < (xs.length : Int)))) (fun hb => ?_) (fun hb => ?_)
    · have hr := ite_t hb hr
      obtain ⟨rest, hrest, hr⟩ := bind_some hr
      obtain ⟨c1, hr⟩ := chk_some hr
      obtain ⟨x, hx, hr⟩ := bind_some hr
      obtain ⟨y, hy, hr⟩ := bind_some hr
      obtain ⟨c2, hr⟩ := chk_some hr
      obtain ⟨c3, hr⟩ := chk_some hr
      refine W_skip ?_
      refine then_n ?_
      refine W_seq ?_
      refine W_block ?_
      refine W_seq_cut (fun f' w' => w' = s.drew.w ∧ f' 0 = .func (.yield l) #[] #[] ∧ f' 1 = p ∧ f' 2 = q ∧ f' 4 = .int .i64 i ∧ f' 5 = .int .i64 (min k (rest.length : Int))) ?_ ?_
      · have eD := Ext.drew s
        refine W_seqd2 (s := s) 0 4 [0, 1, 2, 3, 4, 5, 6] [1, 2, 3, 4, 0, 5, 6] mixedD (by kernel_rfl) rfl rfl ?_ ?_
        · refine L_load tyN3 g2 ((hq.mono hL).mono eD.le) (by decide) ?_
          intro v2 hv2
          obtain rfl := hv2.int
          refine L_load tyB3 g1 ((hp.mono hL).mono eD.le) (by decide) ?_
          intro v3 hv3
          refine L_move g4 (by decide) ?_
          refine L_slice_l Tryz.underlying23 (by kernel_rfl) (rfl : _ = v3) hv3 (rfl : _ = Value.int .i64 i) hrest (by decide) ?_
          intro v4 hv4
          refine L_len Tryz.underlying23 (rfl : _ = v4) hv4 (by decide) ?_
          refine L_min (rfl : _ = Value.int .i64 k) (rfl : _ = Value.int .i64 (rest.length : Int)) (by decide) ?_
          refine L_assign (rfl : _ = Value.int .i64 (min k (rest.length : Int))) (by decide) ?_
          exact L_nil ⟨rfl, then_n ⟨rfl, g0, g1, g2, g4, rfl⟩⟩
        · refine L_load tyB3 g1 ((hp.mono hL).mono eD.le) (by decide) ?_
          intro v3 hv3
          refine L_move g4 (by decide) ?_
          refine L_slice_l Tryz.underlying23 (by kernel_rfl) (rfl : _ = v3) hv3 (rfl : _ = Value.int .i64 i) hrest (by decide) ?_
          intro v4 hv4
          refine L_len Tryz.underlying23 (rfl : _ = v4) hv4 (by decide) ?_
          refine L_load tyN3 g2 ((hq.mono hL).mono eD.le) (by decide) ?_
          intro v2 hv2
          obtain rfl := hv2.int
          refine L_min (rfl : _ = Value.int .i64 k) (rfl : _ = Value.int .i64 (rest.length : Int)) (by decide) ?_
          refine L_assign (rfl : _ = Value.int .i64 (min k (rest.length : Int))) (by decide) ?_
          exact L_nil ⟨rfl, then_n ⟨rfl, g0, g1, g2, g4, rfl⟩⟩
      rintro f' w' ⟨rfl, g0, g1, g2, g4, g5⟩
      have eD := Ext.drew s
      have hJ := hJe _ _ _ hJ eD
      have hL := hL.trans eD.le
      generalize s.drew = s at *
      refine W_seq ?_
      refine W_region_round (pre := [_, _, _, _, _, _, _, _, _, _]) (post := [_]) rfl rfl rfl rfl (by intro k e; cases e; decide) ?_ ?_
      · rintro f w ⟨h | h, _⟩ <;> cases h
      refine L_move g0 (by decide) ?_
      refine L_load tyB3 g1 (hp.mono hL) (by decide) ?_
      intro v5 hv5
      refine L_move g4 (by decide) ?_
      refine L_move g4 (by decide) ?_
      refine L_move g5 (by decide) ?_
      refine L_add (rfl : _ = Value.int .i64 i) (rfl : _ = Value.int .i64 (min k (rest.length : Int))) c1 (by decide) ?_
      refine L_move g4 (by decide) ?_
      refine L_move g5 (by decide) ?_
      refine L_add (rfl : _ = Value.int .i64 i) (rfl : _ = Value.int .i64 (min k (rest.length : Int))) c1 (by decide) ?_
      refine L_slice_lhm Tryz.underlying23 (by kernel_rfl) (rfl : _ = v5) hv5 (rfl : _ = Value.int .i64 i) (rfl : _ = Value.int .i64 (i + min k (rest.length : Int))) (rfl : _ = Value.int .i64 (i + min k (rest.length : Int))) hx (by decide) ?_
      intro v6 hv6
      refine L_nil (Or.inr ⟨rfl, l, _, _, _, _, run_callYield (rfl : _ = Value.func (.yield l) #[] #[]) (rfl : _ = v6) (hJl _ _ hJ) h1, RoundIn.mono (hround pre s v6 x y hJ hL hv6 hy c2) ?_⟩)
      rintro e w' ⟨rfl, s', rfl, hL', hJ'⟩
      refine ⟨_, rfl, ?_⟩
      refine L_not (rfl : _ = Value.bool true) (by decide) ?_
      refine L_nil ?_
      refine then_n ?_
      refine W_cond _ (rfl : _ = Value.bool (!true)) (fun hb => by cases hb) (fun _ => ?_)
      refine W_skip ?_
      refine W_region ?_
      refine L_move g4 (by decide) ?_
      refine L_load tyN3 g2 ((hq.mono hL).mono hL') (by decide) ?_
      intro v7 hv7
      obtain rfl := hv7.int
      refine L_add (rfl : _ = Value.int .i64 i) (rfl : _ = Value.int .i64 k) c3 (by decide) ?_
      refine L_assign (rfl : _ = Value.int .i64 (i + k)) (by decide) ?_
      refine L_nil ?_
      exact then_n ⟨m, Nat.lt_succ_self m, s', i + k, pre ++ [y], rfl, hL.trans hL', hJ', hr, g0, g1, g2, rfl⟩
    · have hr := ite_f hb hr
      cases hr
      refine W_exit ?_
      exact done0 (R := fun e w' => ∃ s' : St, e = .returned (.tuple #[]) ∧ s'.w = w' ∧ Le sA s' ∧ J _ s') (Or.inr rfl) Tryz.results103 ⟨s, rfl, rfl, hL, hJ⟩

def check_Divide (N : Nat) (a0 : List U8) (a1 : Int) (a2 : Int) : Option ((List (List U8)) × Int) :=
  Option.bind (if decide (a1 < 1) then
  (some (true))
  else
  (if decide (16 < a1) then
  (some (true))
  else
  (if decide (a2 < 0) then
  (some (true))
  else
  (some (decide (16 < a2)))))) fun o2 => match o2 with
  | x1 =>
  (if x1 then
  (some ((([] : List (List U8)), (3 : Int))))
  else
  (chk (inR ((a0.length : Int) + 4)) <|
  chk (inR ((a0.length : Int) + 4 + a1)) <|
  chk (inR ((a0.length : Int) + 4 + a1 - 1)) <|
  chk (a1 ≠ (0 : Int) ∧ inR (Int.tdiv ((a0.length : Int) + 4 + a1 - 1) a1)) <|
  if decide (65536 < (Int.tdiv ((a0.length : Int) + 4 + a1 - 1) a1)) then
  (some ((([] : List (List U8)), (8 : Int))))
  else
  (chk (inR ((Int.tdiv ((a0.length : Int) + 4 + a1 - 1) a1) * a1)) <|
  chk ((0 : Int) ≤ ((Int.tdiv ((a0.length : Int) + 4 + a1 - 1) a1) * a1) ∧ (1 : Int) * ((Int.tdiv ((a0.length : Int) + 4 + a1 - 1) a1) * a1) ≤ 281474976710656 ∧ ((Int.tdiv ((a0.length : Int) + 4 + a1 - 1) a1) * a1) ≤ 9223372036854775807) <|
  chk ((0 : Int) ≤ (⟨24⟩ : U64).n) <|
  chk ((0 : Int) ≤ (⟨16⟩ : U64).n) <|
  chk ((0 : Int) ≤ (⟨8⟩ : U64).n) <|
  chk ((4 : Int) ≤ ((((Int.tdiv ((a0.length : Int) + 4 + a1 - 1) a1) * a1).toNat : Nat) : Int)) <|
  chk (1 ≤ (Int.tdiv ((a0.length : Int) + 4 + a1 - 1) a1)) <|
  Option.bind (chunkG N (cpy (cpy (List.replicate ((Int.tdiv ((a0.length : Int) + 4 + a1 - 1) a1) * a1).toNat (⟨0⟩ : U8)) 0 ([(⟨convK .u8 (shrK .i64 (a0.length : Int) (⟨24⟩ : U64).n)⟩ : U8), (⟨convK .u8 (shrK .i64 (a0.length : Int) (⟨16⟩ : U64).n)⟩ : U8), (⟨convK .u8 (shrK .i64 (a0.length : Int) (⟨8⟩ : U64).n)⟩ : U8), (⟨convK .u8 (a0.length : Int)⟩ : U8)] : List U8)) 4 a0) (Int.tdiv ((a0.length : Int) + 4 + a1 - 1) a1) N 0 []) fun out =>
  Option.bind (check_Parity N out a2) fun pr =>
  if !decide (pr.2 = 0) then
  (some ((([] : List (List U8)), pr.2)))
  else
  (chk ((out.length + pr.1.length) * 24 ≤ 140737488355328 ∧ out.length + pr.1.length ≤ maxLen) <|
  some ((out ++ pr.1, (0 : Int)))))))

/-- What holds between two rounds. -/
structure DivJ (s0 : St) (l D bo : Nat) (r : Loop) (pre : List (List U8)) (s : St) : Prop where
  ext : Ext s0 s
  rec_ : s.w.heap[l]? = some (.loop r)
  g : s.g l = 0
  dfr : s.w.heap[D]? = some (.deferred (some []))
  gd : s.g D = 0
  out : ∃ vo, Var s bo 22 (⟨vo⟩ : RawV) ∧ Bld s s0.w.heap.size 23 vo pre
theorem at_lt {w : World} {b : Nat} {o : Obj} (h : w.heap[b]? = some o) : b < w.heap.size := (Array.getElem?_eq_some_iff.1 h).1
theorem at_ext {s s' : St} {b : Nat} {o : Obj} (e : Ext s s') (h : s.w.heap[b]? = some o) : s'.w.heap[b]? = some o := (e.block b (at_lt h) (fun x => x)).trans h
theorem at_tch {s s' : St} {b : Nat} {o : Obj} {M : Nat → Prop} (e : Tch M s s') (h : s.w.heap[b]? = some o) (hn : ¬ M b) : s'.w.heap[b]? = some o := (e.block b (at_lt h) hn).trans h
theorem Var.heap {α : Type} [Rep α] {s : St} {b : Nat} {E : TypeId} {x : α} (h : Var s b E x) : ∃ cs, s.w.heap[b]? = some (.cells cs E (0, 0)) := by
  obtain ⟨cs, h1, _⟩ := h; exact ⟨_, h1.heap⟩
theorem DivJ.more {s0 s s' : St} {l D bo : Nat} {r : Loop} {pre : List (List U8)} (h : DivJ s0 l D bo r pre s) (e : Ext s s') : DivJ s0 l D bo r pre s' := by
  obtain ⟨vo, h1, h2⟩ := h.out
  exact ⟨h.ext.trans e, at_ext e h.rec_, (e.g l (at_lt h.rec_) (fun x => x)).trans h.g, at_ext e h.dfr, (e.g D (at_lt h.dfr) (fun x => x)).trans h.gd, vo, h1.ext e, h2.ext e⟩
/-- A round begins. -/
theorem DivJ.begins {s0 s s1 : St} {l D bo : Nat} {r : Loop} {pre : List (List U8)} (h : DivJ s0 l D bo r pre s) (t1 : Tch (fun k => k = l) s s1) : ∃ vo, Var s1 bo 22 (⟨vo⟩ : RawV) ∧ Bld s1 s0.w.heap.size 23 vo pre := by
  obtain ⟨vo, h1, h2⟩ := h.out
  refine ⟨vo, h1.tch t1 (fun e => ?_), h2.tch t1 (fun b hb e => ?_)⟩
  · obtain ⟨cs, hc⟩ := h1.heap
    rw [e, h.rec_] at hc; cases hc
  · obtain ⟨cs, hc⟩ := h2.heap hb
    rw [e, h.rec_] at hc; cases hc
/-- A round ends. -/
theorem DivJ.ends {s0 s s1 s4 s5 s6 : St} {l D bo : Nat} {r r1 : Loop} {pre post : List (List U8)} {vo vo' : Value} (h : DivJ s0 l D bo r pre s) (t1 : Tch (fun k => k = l) s s1) (h1 : s1.w.heap[l]? = some (.loop r1)) (g1 : s1.g l = 0)
    (hv : Var s1 bo 22 (⟨vo⟩ : RawV)) (hb : Bld s1 s0.w.heap.size 23 vo pre) (e4 : Ext s1 s4) (g5 : Grows s4 s0.w.heap.size 23 vo vo' post s5) (t6 : Tch (fun k => k = bo) s5 s6) (hv6 : Var s6 bo 22 (⟨vo'⟩ : RawV)) (hl : s0.w.heap.size ≤ l) (hbo : s0.w.heap.size ≤ bo) :
    s6.w.heap[l]? = some (.loop r1) ∧ Le s (s6.putO l (.loop r)) ∧ DivJ s0 l D bo r post (s6.putO l (.loop r)) := by
  have nl : ¬ own vo l := fun x => by obtain ⟨cs, hc⟩ := hb.heap x; rw [h1] at hc; cases hc
  have hD1 : s1.w.heap[D]? = some (.deferred (some [])) := at_tch t1 h.dfr (fun e => by have := h.dfr; rw [e, h.rec_] at this; cases this)
  have nD : ¬ own vo D := fun x => by obtain ⟨cs, hc⟩ := hb.heap x; rw [hD1] at hc; cases hc
  obtain ⟨cs, hcs⟩ := hv.heap
  have nb : ¬ own vo bo := fun x => by obtain ⟨cs', hc⟩ := hb.heap x; rw [hcs] at hc; injection hc with hc; injection hc with _ hc; cases hc
  have lb : l ≠ bo := fun e => by rw [e, hcs] at h1; cases h1
  have Db : D ≠ bo := fun e => by rw [e, hcs] at hD1; cases hD1
  have lD : D ≠ l := fun e => by rw [e, h1] at hD1; cases hD1
  have z4 : s1.w.heap.size ≤ s4.w.heap.size := e4.size
  have own' : ∀ b, own vo' b → b < s1.w.heap.size → own vo b := fun b x y => (g5.own b x).resolve_right (by omega)
  have h6 : s6.w.heap[l]? = some (.loop r1) := at_tch t6 (at_tch g5.tch (at_ext e4 h1) nl) lb
  have hD6 : s6.w.heap[D]? = some (.deferred (some [])) := at_tch t6 (at_tch g5.tch (at_ext e4 hD1) nD) Db
  have l1 := at_lt h1
  have D1 := at_lt hD1
  have b1 := at_lt hcs
  have z5 : s4.w.heap.size ≤ s5.w.heap.size := g5.tch.size
  have g6 : s6.g l = 0 := by rw [t6.g l (by omega) lb, g5.tch.g l (by omega) nl, e4.g l (by omega) (fun x => x)]; exact g1
  have gD6 : s6.g D = 0 := by rw [t6.g D (by omega) Db, g5.tch.g D (by omega) nD, e4.g D (by omega) (fun x => x), t1.g D (at_lt h.dfr) lD]; exact h.gd
  have t7 : Tch (fun k => k = l) s6 (s6.putO l (.loop r)) := Tch.putO g6
  have E1 : Ext s0 s1 := Tch.trans h.ext t1 (fun k hk => .inr (by subst hk; exact hl))
  have E5 : Ext s0 s5 := Tch.trans (E1.trans e4) g5.tch (fun k hk => .inr (hb.lt hk).1)
  have E6 : Ext s0 s6 := Tch.trans E5 t6 (fun k hk => .inr (by subst hk; exact hbo))
  have E7 : Ext s0 (s6.putO l (.loop r)) := Tch.trans E6 t7 (fun k hk => .inr (by subst hk; exact hl))
  refine ⟨h6, t1.le.trans (e4.le.trans (g5.tch.le.trans (t6.le.trans t7.le))), E7, putO_at (at_lt h6), g6, at_tch t7 hD6 lD, gD6, vo', hv6.tch t7 (fun e => lb e.symm), ?_⟩
  exact (g5.bld.tch t6 (fun b x e => nb (own' bo (e ▸ x) b1))).tch t7 (fun b x e => nl (own' l (e ▸ x) l1))

end
end Go.Arm
namespace Go.Arm
open Go Go.RowKit Go.Proofs

section
variable {s s' s1 s2 : St} {B B' : Nat} {E E2 : TypeId} {v v' u vP : Value} {vs vsP : List RawV} {xss P : List (List U8)} {xs ys : List U8} {x y : RawV} {M F : Nat → Prop}
/-- Rows that read as lists make a slice that reads as a list of them. -/
theorem rows_V (ho : V s1 v vs) (hl : vs.length = xss.length) (hin : ∀ (i : Nat) (hi : i < xss.length) (hi' : i < vs.length), V s1 vs[i].v xss[i]) : V s1 v xss := by
  obtain ⟨base, cap, e, hc, hr⟩ := ho.slice
  subst e
  refine Vslice hl (by rw [← hl]; exact hc) (fun hne => ?_)
  obtain ⟨b, o, e2, hrow⟩ := hr (fun e => hne (List.eq_nil_of_length_eq_zero (by rw [← hl, e]; rfl)))
  refine ⟨b, o, e2, fun i hi => ?_⟩
  have hi' : i < vs.length := by rw [hl]; exact hi
  obtain ⟨cs, ⟨h1, _⟩, h2⟩ := hrow i hi'
  refine ⟨cs, ?_, h2⟩
  have hv := hin i hi hi'
  rw [h1]
  exact hv.one rfl
/-- The rows' blocks. -/
def rfoot (vs : List RawV) (b : Nat) : Prop := ∃ (i : Nat) (x : RawV), vs[i]? = some x ∧ own x.v b
theorem GMat.rz (h : GMat s B E E2 v vs xss) : ∀ b, rfoot vs b → s.g b = 0 := fun b ⟨_, _, hx, hb⟩ => by
  obtain ⟨_, h1⟩ := h.row hx
  exact h1.unclaimed hb
theorem GMat.freezeR (h : GMat s B E E2 v vs xss) : ∃ s1, s1.w = s.w ∧ Tch (rfoot vs) s s1 ∧ V s1 v xss := by
  have hF : ∀ b, rfoot vs b → b < s.w.heap.size := fun b hb => (h.lt (.inr hb)).2
  have t := claimF_tch hF h.rz
  refine ⟨s.claimF _ hF, rfl, t, rows_V (h.outer.tch t (fun b hb ⟨i, x, hx, hb2⟩ => h.apart i x hx b hb2 hb)).toV h.len (fun i hi hi' => ?_)⟩
  exact (h.each i _ _ (List.getElem?_eq_getElem hi') (List.getElem?_eq_getElem hi)).asV rfl t.le (fun b hb => claimF_g hF ⟨i, _, List.getElem?_eq_getElem hi', hb⟩)
theorem back_ext (e1 : s1.w = s.w) (t1 : Tch M s s1) (hz : ∀ k, M k → s.g k = 0) (t2 : Ext s1 s2) : Ext s (s2.freeF M) := by
  have hsz : s1.w.heap.size = s.w.heap.size := by rw [e1]
  have hb : ∀ k, k < s.w.heap.size → s2.w.heap[k]? = s.w.heap[k]? := fun k hk => by rw [t2.block k (by omega) (fun x => x), e1]
  have hg : ∀ k, k < s.w.heap.size → (s2.freeF M).g k = s.g k := fun k hk => by
    by_cases hm : M k
    · rw [freeF_g hm]; exact (hz k hm).symm
    · have : (s2.freeF M).g k = s2.g k := if_neg hm
      rw [this, t2.g k (by omega) (fun x => x), t1.g k hk hm]
  exact ⟨by show s2.w.os = _; rw [t2.os, e1], by show s2.w.tape = _; rw [t2.tape, e1], by show s2.w.output = _; rw [t2.output, e1], by have := t2.size; rw [hsz] at this; exact this, fun k hk _ => hb k hk, fun k hk _ => hg k hk, le_of_blocks hb (fun k hk => Nat.le_of_eq (hg k hk).symm)⟩
theorem GMat.other (h : GMat s B E E2 v vs xss) (hF : ∀ b, foot v vs b → ¬ F b) : GMat (s.freeF F) B E E2 v vs xss := by
  refine ⟨?_, h.len, fun i x xs h1 h2 => (h.each i x xs h1 h2).same flatU8 rfl (fun b hb => freeF_g0 ((h.each i x xs h1 h2).unclaimed hb)), h.dis, h.apart⟩
  rcases h.outer with ⟨h1, h2⟩ | ⟨b, cap, cur, h1, hb, hh, hxc, hcm, hcs, hg, hrow⟩
  · exact .inl ⟨h1, h2⟩
  · have hn : ¬ F b := hF b (.inl (by rw [h1]; rfl))
    have e : (s.freeF F).g b = s.g b := if_neg hn
    refine .inr ⟨b, cap, cur, h1, hb, hh, hxc, hcm, hcs, by rw [e]; exact hg, fun i hi => ?_⟩
    obtain ⟨cs, k1, k2⟩ := hrow i hi
    exact ⟨cs, k1, fun j hj => ⟨(k2 j hj).1, by rw [e]; exact (k2 j hj).2⟩⟩
theorem GMat.base (h : GMat s B E E2 v vs xss) (hB : B' ≤ B) : GMat s B' E E2 v vs xss :=
  ⟨h.outer.base hB, h.len, fun i x xs h1 h2 => (h.each i x xs h1 h2).base hB, h.dis, h.apart⟩
theorem ArrS.heap {b : Nat} (h : ArrS s B E u ys) (hb : own u b) : ∃ cs, s.w.heap[b]? = some (.cells cs E (0, 0)) := by
  rcases h with ⟨rfl, rfl⟩ | ⟨b', cap, C, rfl, _, _, hm, _⟩
  · cases hb
  · cases hb; exact ⟨_, hm.heap⟩
theorem ArrS.one' (h : ArrS s B E u ys) : u.oneCell' = true := by
  rcases h with ⟨rfl, rfl⟩ | ⟨b', cap, C, rfl, _⟩ <;> rfl
theorem GMat.heap {b : Nat} (h : GMat s B E E2 v vs xss) (hb : foot v vs b) : ∃ cs T, s.w.heap[b]? = some (.cells cs T (0, 0)) ∧ (T = E2 ∨ T = E) := by
  rcases hb with hb | ⟨i, x, hx, hb⟩
  · obtain ⟨cs, hc⟩ := h.outer.heap hb
    exact ⟨cs, _, hc, .inl rfl⟩
  · obtain ⟨_, h1⟩ := h.row hx
    obtain ⟨cs, hc⟩ := h1.heap hb
    exact ⟨cs, _, hc, .inr rfl⟩
/-- The rows of another matrix are appended. -/
theorem GMat.app (h : GMat s B E E2 v vs xss) (hP : GMat s B E E2 vP vsP P) (hd : ∀ b, foot v vs b → ¬ foot vP vsP b) (g : Grows s B E2 v v' (vs ++ vsP) s') : GMat s' B E E2 v' (vs ++ vsP) (xss ++ P) := by
  have get : ∀ (j : Nat) (y : RawV), (vs ++ vsP)[j]? = some y → (j < vs.length ∧ vs[j]? = some y) ∨ (vs.length ≤ j ∧ vsP[j - vs.length]? = some y) := by
    intro j y hj
    by_cases e : j < vs.length
    · rw [List.getElem?_append_left e] at hj; exact .inl ⟨e, hj⟩
    · rw [List.getElem?_append_right (by omega)] at hj; exact .inr ⟨by omega, hj⟩
  refine ⟨g.bld, by simp [h.len, hP.len], fun j y zs h1 h2 => ?_, fun j k y z hjk h1 h2 b hb hb2 => ?_, fun j y h1 b hb hv => ?_⟩
  · rcases get j y h1 with ⟨hlt, g1⟩ | ⟨hge, g1⟩
    · rw [List.getElem?_append_left (by rw [← h.len]; exact hlt)] at h2
      exact (h.each j y zs g1 h2).tch g.tch (fun b hb hv => h.apart j y g1 b hb hv)
    · rw [List.getElem?_append_right (by rw [← h.len]; exact hge), ← h.len] at h2
      exact (hP.each _ y zs g1 h2).tch g.tch (fun b hb hv => hd b (.inl hv) (.inr ⟨_, y, g1, hb⟩))
  · rcases get j y h1 with ⟨hlt, g1⟩ | ⟨hge, g1⟩
    · rcases get k z h2 with ⟨hlt2, g2⟩ | ⟨hge2, g2⟩
      · exact h.dis j k y z hjk g1 g2 b hb hb2
      · exact hd b (.inr ⟨j, y, g1, hb⟩) (.inr ⟨_, z, g2, hb2⟩)
    · rcases get k z h2 with ⟨hlt2, g2⟩ | ⟨hge2, g2⟩
      · exact hd b (.inr ⟨k, z, g2, hb2⟩) (.inr ⟨_, y, g1, hb⟩)
      · exact hP.dis _ _ y z (by omega) g1 g2 b hb hb2
  · rcases get j y h1 with ⟨_, g1⟩ | ⟨_, g1⟩
    · rcases g.own b hv with h3 | h3
      · exact h.apart j y g1 b hb h3
      · have := (h.lt (.inr ⟨j, y, g1, hb⟩)).2; omega
    · rcases g.own b hv with h3 | h3
      · exact hd b (.inl h3) (.inr ⟨_, y, g1, hb⟩)
      · have := (hP.lt (.inr ⟨_, y, g1, hb⟩)).2; omega
/-- All its blocks may be set. -/
theorem GMat.toMat (h : GMat s B E E2 v vs xss) : Mat (s.freeF (own v)) B E E2 v vs xss := by
  have flatR : Flat RawV := fun _ _ _ _ h => h
  exact ⟨h.outer.toS flatR rfl (fun b hb => freeF_g hb), h.len, fun i x xs h1 h2 => (h.each i x xs h1 h2).same flatU8 rfl (fun b hb => freeF_g0 ((h.each i x xs h1 h2).unclaimed hb)), h.dis, h.apart⟩
end

theorem check_field_block_okA (N : Nat) (s0 : St) (w0 : Value) (a0 : Field) (h0 : Ptr s0 w0 a0) (a1 : Int) (w2 : Value) (a2 : List (List U8)) (h2 : V s0 w2 a2) (r : List U8) (hr : check_field_block N a0 a1 a2 = some r) :
    Calls Tryz.prog 51 #[w0, .int .i64 a1, w2] s0.w (Ret s0 fun v s => ArrS s s0.w.heap.size 5 v r) := by
  unfold check_field_block at hr
  refine Calls_of (n := 36) (args := [w0, .int .i64 a1, w2]) Tryz.func51 rfl rfl (by simp) ?_
  refine W_seq ?_
  refine W_region ?_
  refine L_assign (rfl : _ = Value.slice none 0 0) (by decide) ?_
  refine L_nil ?_
  refine then_n ?_
  refine W_seq ?_
  refine W_region ?_
  obtain ⟨d, hd, hr⟩ := bind_some hr
  obtain ⟨hc, hr⟩ := chk_some hr
  obtain ⟨row, hrow, hr⟩ := bind_some hr
  refine L_move (rfl : _ = w2) (by decide) ?_
  refine L_index Tryz.underlying22 ty23.inf (rfl : _ = w2) h2 (rfl : _ = Value.int .i64 0) hd (by decide) ?_
  intro p1 hp1
  refine L_load ty23 (rfl : _ = p1) hp1 (by decide) ?_
  intro v1 hv1
  refine L_len Tryz.underlying23 (rfl : _ = v1) hv1 (by decide) ?_
  refine L_makeArr (x0 := (⟨0⟩ : U8)) Tryz.underlying23 tyz5 (rfl : _ = Value.int .i64 (d.length : Int)) hc.1 hc.2.1 hc.2.2 (fun _ => rfl) (by decide) ?_
  intro s1 b1 e1 hb1 hA0
  have hA1 := hA0.toS hb1
  generalize hvo : Value.slice (some ⟨b1, 0, none⟩) ((d.length : Int)).toNat ((d.length : Int)).toNat = vo at hA1 ⊢
  refine L_assign (rfl : _ = vo) (by decide) ?_
  refine L_nil ?_
  refine then_n ?_
  refine W_seq ?_
  refine W_seq ?_
  refine W_region ?_
  refine L_move (rfl : _ = w0) (by decide) ?_
  refine L_move (rfl : _ = Value.int .i64 a1) (by decide) ?_
  refine L_move (rfl : _ = w2) (by decide) ?_
  refine L_len Tryz.underlying22 (rfl : _ = w2) h2 (by decide) ?_
  refine L_calls cal99 (args3 (rfl : _ = w0) (rfl : _ = Value.int .i64 a1) (rfl : _ = Value.int .i64 (a2.length : Int))) (check_field_row_ok N s1 w0 a0 (h0.mono e1.le) a1 (a2.length : Int) row hrow) (by decide) ?_
  intro v19 s2 e2 hv19
  have hA2 := hA1.ext e2
  have E2 : Ext s0 s2 := e1.trans e2
  refine L_len Tryz.underlying23 (rfl : _ = v19) hv19 (by decide) ?_
  refine L_move (rfl : _ = Value.int .i64 0) (by decide) ?_
  refine L_nil ?_
  refine then_n ?_
  refine W_cut (fun f w => ∃ (s : St), s.w = w ∧ Ext s0 s ∧ ArrS s s0.w.heap.size 5 vo r ∧ f 7 = vo) ?_ ?_
  · refine W_block ?_
    refine W_loop (fun m f w => ∃ (s : St) (i : Int) (l : List U8), s.w = w ∧ Ext s0 s ∧ ArrS s s0.w.heap.size 5 vo l ∧ V s v19 row ∧ blockL N a0 a2 row m i l = some r ∧ f 0 = w0 ∧ f 2 = w2 ∧ f 7 = vo ∧ f 19 = v19 ∧ f 20 = Value.int .i64 (row.length : Int) ∧ f 21 = Value.int .i64 i) N ⟨s2, 0, _, rfl, E2, hA2, hv19, hr, rfl, rfl, rfl, rfl, rfl, rfl⟩ ?_
    rintro m f w ⟨s, i, l, rfl, hE, hA, hR, hr, g0, g2, g7, g19, g20, gi⟩
    cases m with
    | zero => cases hr
    | succ m =>
      rw [blockL] at hr
      refine W_seq ?_
      refine W_region ?_
      refine L_lss gi g20 (by decide) ?_
      refine L_nil ?_
      refine then_n ?_
      refine W_seq ?_
      refine W_cond _ (rfl : _ = Value.bool (decide (i < (row.length : Int)))) (fun hb => ?_) (fun hb => ?_)
      · have hr := ite_t hb hr
        refine W_skip ?_
        refine then_n ?_
        refine W_seq ?_
        refine W_block ?_
        obtain ⟨y, hy, hr⟩ := bind_some hr
        obtain ⟨e, he, hr⟩ := bind_some hr
        obtain ⟨x, hx, hr⟩ := bind_some hr
        obtain ⟨hc, hr⟩ := chk_some hr
        refine W_seq ?_
        refine W_region ?_
        refine L_move gi (by decide) ?_
        refine L_index Tryz.underlying23 ty5.inf g19 hR gi hy (by decide) ?_
        intro q hq
        refine L_load_u8 ty5 (rfl : _ = q) hq (by decide) ?_
        refine L_assign (rfl : _ = Value.int .i64 i) (by decide) ?_
        refine L_assign (rfl : _ = Value.int .u8 y.n) (by decide) ?_
        refine L_nil ?_
        refine then_n ?_
        refine W_region ?_
        refine L_move g0 (by decide) ?_
        refine L_move g7 (by decide) ?_
        refine L_move g2 (by decide) ?_
        refine L_move (rfl : _ = Value.int .i64 i) (by decide) ?_
        refine L_index Tryz.underlying22 ty23.inf (rfl : _ = w2) (h2.mono hE.le) (rfl : _ = Value.int .i64 i) he (by decide) ?_
        intro p3 hp3
        refine L_load ty23 (rfl : _ = p3) hp3 (by decide) ?_
        intro v3 hv3
        refine L_move (rfl : _ = Value.int .u8 y.n) (by decide) ?_
        refine L_calls_mut cal100 (args4 (rfl : _ = w0) (rfl : _ = vo) (rfl : _ = v3) (rfl : _ = Value.int .u8 y.n)) (check_field_add_ok N s w0 a0 (h0.mono hE.le) s0.w.heap.size vo l hA v3 e (Rd.of_V hv3) (V_own hv3 hA) y x hx) (by decide) ?_
        intro v4 s3 t3 hA3
        have hE3 : Ext s0 s3 := Tch.trans hE t3 (fun k hk => .inr (hA.lt hk).1)
        refine L_nil ?_
        refine block_n ?_
        refine then_n ?_
        refine W_region ?_
        refine L_add gi (rfl : _ = Value.int .i64 (1)) hc (by decide) ?_
        refine L_move (rfl : _ = Value.int .i64 (i + 1)) (by decide) ?_
        refine L_nil ?_
        exact then_n ⟨m, Nat.lt_succ_self _, s3, i + 1, x, rfl, hE3, hA3, hR.mono t3.le, hr, g0, g2, g7, g19, g20, rfl⟩
      · have hr := ite_f hb hr
        refine W_exit ?_
        refine then_x ?_
        refine then_x ?_
        refine block_here ?_
        obtain rfl := Option.some.inj hr
        exact then_n ⟨s, rfl, hE, hA, g7⟩
  · rintro f w ⟨s, rfl, hE, hA, g7⟩
    refine then_n ?_
    refine W_seq ?_
    refine W_region ?_
    refine L_move g7 (by decide) ?_
    refine L_assign (rfl : _ = vo) (by decide) ?_
    refine L_nil ?_
    refine then_n ?_
    refine W_ret ?_
    exact done1 (Or.inl rfl) Tryz.results51 rfl ⟨_, s, rfl, rfl, hE, hA⟩


theorem check_Parity_okG (N : Nat) (s0 : St) (w0 : Value) (a0 : List (List U8)) (h0 : V s0 w0 a0) (a1 : Int) (r : (List (List U8)) × Int) (hr : check_Parity N a0 a1 = some r) :
    Calls Tryz.prog 12 #[w0, .int .i64 a1] s0.w (Ret s0 fun v s => ∃ a b, v = .tuple #[a, b] ∧ (∃ vs, GMat s s0.w.heap.size 5 23 a vs r.1) ∧ V s b r.2) := by
  unfold check_Parity at hr
  have hE0 := Ext.refl s0
  refine Calls_of (n := 48) (args := [w0, .int .i64 a1]) Tryz.func12 rfl rfl (by simp) ?_
  refine W_seq ?_
  refine W_region ?_
  refine L_assign (rfl : _ = Value.slice none 0 0) (by decide) ?_
  refine L_assign (rfl : _ = Value.int .i64 (0)) (by decide) ?_
  refine L_nil ?_
  refine then_n ?_
  refine W_seq ?_
  obtain ⟨o2, ho3, hq4⟩ := bind_some hr
  refine W_seq_cut (fun f w => ∃ (s : St) (x1 : Bool), s.w = w ∧ Ext s0 s ∧ Le s0 s ∧ x1 = o2 ∧ f 25 = Value.bool x1 ∧ f 0 = w0 ∧ f 1 = Value.int .i64 (a1)) ?_ ?_
  · have hr := ho3
    refine W_region ?_
    refine L_move (rfl : _ = w0) (by decide) ?_
    refine L_len Tryz.underlying22 (rfl : _ = w0) h0 (by decide) ?_
    refine L_lss (rfl : _ = Value.int .i64 ((a0.length : Int))) (rfl : _ = Value.int .i64 (1)) (by decide) ?_
    refine L_move (rfl : _ = Value.bool (decide ((a0.length : Int) < 1))) (by decide) ?_
    rcases Bool.eq_false_or_eq_true (decide ((a0.length : Int) < 1)) with hb5 | hb5
    · have hr := ite_t hb5 hr
      refine L_gf (e := 13) (by rfl) (by decide) (rfl : _ = Value.bool (decide ((a0.length : Int) < 1))) hb5 (by decide) ?_
      refine L_gf (e := 13) (by rfl) (by decide) (rfl : _ = Value.bool (decide ((a0.length : Int) < 1))) hb5 (by decide) ?_
      refine L_gf (e := 13) (by rfl) (by decide) (rfl : _ = Value.bool (decide ((a0.length : Int) < 1))) hb5 (by decide) ?_
      refine L_pick_t (rfl : _ = Value.bool (decide ((a0.length : Int) < 1))) hb5 (rfl : _ = Value.bool (true)) (by decide) ?_
      refine L_move (rfl : _ = Value.bool (true)) (by decide) ?_
      refine L_gf (e := 18) (by rfl) (by decide) (rfl : _ = Value.bool (true)) rfl (by decide) ?_
      refine L_gf (e := 18) (by rfl) (by decide) (rfl : _ = Value.bool (true)) rfl (by decide) ?_
      refine L_pick_t (rfl : _ = Value.bool (true)) rfl (rfl : _ = Value.bool (true)) (by decide) ?_
      refine L_move (rfl : _ = Value.bool (true)) (by decide) ?_
      refine L_gf (e := 22) (by rfl) (by decide) (rfl : _ = Value.bool (true)) rfl (by decide) ?_
      refine L_gf (e := 22) (by rfl) (by decide) (rfl : _ = Value.bool (true)) rfl (by decide) ?_
      refine L_pick_t (rfl : _ = Value.bool (true)) rfl (rfl : _ = Value.bool (true)) (by decide) ?_
      refine L_nil ?_
      exact then_n ⟨s0, true, rfl, hE0, (Le.refl _), Option.some.inj hr, rfl, rfl, rfl⟩
    · have hr := ite_f hb5 hr
      refine L_gt (e := 13) (by rfl) (by decide) (rfl : _ = Value.bool (decide ((a0.length : Int) < 1))) hb5 ?_
      refine L_move (rfl : _ = w0) (by decide) ?_
      refine L_gt (e := 13) (by rfl) (by decide) (rfl : _ = Value.bool (decide ((a0.length : Int) < 1))) hb5 ?_
      refine L_len Tryz.underlying22 (rfl : _ = w0) h0 (by decide) ?_
      refine L_gt (e := 13) (by rfl) (by decide) (rfl : _ = Value.bool (decide ((a0.length : Int) < 1))) hb5 ?_
      refine L_gtr (rfl : _ = Value.int .i64 ((a0.length : Int))) (rfl : _ = Value.int .i64 (16)) (by decide) ?_
      refine L_pick_f (rfl : _ = Value.bool (decide ((a0.length : Int) < 1))) hb5 (rfl : _ = Value.bool (decide (16 < (a0.length : Int)))) (by decide) ?_
      refine L_move (rfl : _ = Value.bool (decide (16 < (a0.length : Int)))) (by decide) ?_
      rcases Bool.eq_false_or_eq_true (decide (16 < (a0.length : Int))) with hb6 | hb6
      · have hr := ite_t hb6 hr
        refine L_gf (e := 18) (by rfl) (by decide) (rfl : _ = Value.bool (decide (16 < (a0.length : Int)))) hb6 (by decide) ?_
        refine L_gf (e := 18) (by rfl) (by decide) (rfl : _ = Value.bool (decide (16 < (a0.length : Int)))) hb6 (by decide) ?_
        refine L_pick_t (rfl : _ = Value.bool (decide (16 < (a0.length : Int)))) hb6 (rfl : _ = Value.bool (true)) (by decide) ?_
        refine L_move (rfl : _ = Value.bool (true)) (by decide) ?_
        refine L_gf (e := 22) (by rfl) (by decide) (rfl : _ = Value.bool (true)) rfl (by decide) ?_
        refine L_gf (e := 22) (by rfl) (by decide) (rfl : _ = Value.bool (true)) rfl (by decide) ?_
        refine L_pick_t (rfl : _ = Value.bool (true)) rfl (rfl : _ = Value.bool (true)) (by decide) ?_
        refine L_nil ?_
        exact then_n ⟨s0, true, rfl, hE0, (Le.refl _), Option.some.inj hr, rfl, rfl, rfl⟩
      · have hr := ite_f hb6 hr
        refine L_gt (e := 18) (by rfl) (by decide) (rfl : _ = Value.bool (decide (16 < (a0.length : Int)))) hb6 ?_
        refine L_move (rfl : _ = Value.int .i64 (a1)) (by decide) ?_
        refine L_gt (e := 18) (by rfl) (by decide) (rfl : _ = Value.bool (decide (16 < (a0.length : Int)))) hb6 ?_
        refine L_lss (rfl : _ = Value.int .i64 (a1)) (rfl : _ = Value.int .i64 (0)) (by decide) ?_
        refine L_pick_f (rfl : _ = Value.bool (decide (16 < (a0.length : Int)))) hb6 (rfl : _ = Value.bool (decide (a1 < 0))) (by decide) ?_
        refine L_move (rfl : _ = Value.bool (decide (a1 < 0))) (by decide) ?_
        rcases Bool.eq_false_or_eq_true (decide (a1 < 0)) with hb7 | hb7
        · have hr := ite_t hb7 hr
          refine L_gf (e := 22) (by rfl) (by decide) (rfl : _ = Value.bool (decide (a1 < 0))) hb7 (by decide) ?_
          refine L_gf (e := 22) (by rfl) (by decide) (rfl : _ = Value.bool (decide (a1 < 0))) hb7 (by decide) ?_
          refine L_pick_t (rfl : _ = Value.bool (decide (a1 < 0))) hb7 (rfl : _ = Value.bool (true)) (by decide) ?_
          refine L_nil ?_
          exact then_n ⟨s0, true, rfl, hE0, (Le.refl _), Option.some.inj hr, rfl, rfl, rfl⟩
        · have hr := ite_f hb7 hr
          refine L_gt (e := 22) (by rfl) (by decide) (rfl : _ = Value.bool (decide (a1 < 0))) hb7 ?_
          refine L_move (rfl : _ = Value.int .i64 (a1)) (by decide) ?_
          refine L_gt (e := 22) (by rfl) (by decide) (rfl : _ = Value.bool (decide (a1 < 0))) hb7 ?_
          refine L_gtr (rfl : _ = Value.int .i64 (a1)) (rfl : _ = Value.int .i64 (16)) (by decide) ?_
          refine L_pick_f (rfl : _ = Value.bool (decide (a1 < 0))) hb7 (rfl : _ = Value.bool (decide (16 < a1))) (by decide) ?_
          refine L_nil ?_
          exact then_n ⟨s0, (decide (16 < a1)), rfl, hE0, (Le.refl _), Option.some.inj hr, rfl, rfl, rfl⟩
  · rintro f74 w75 ⟨s8, x1, rfl, hE10, l9, ho3, g11_25, g11_0, g11_1⟩
    subst ho3
    have hr := hq4
    try dsimp only at hr
    refine W_cond _ g11_25 (fun hb12 => ?_) (fun hb12 => ?_)
    · have hr := ite_t hb12 hr
      refine W_seq ?_
      refine W_region ?_
      refine L_assign (rfl : _ = Value.slice none 0 0) (by decide) ?_
      refine L_assign (rfl : _ = Value.int .i64 (3)) (by decide) ?_
      refine L_nil ?_
      refine then_n ?_
      refine W_ret ?_
      refine then_r ?_
      obtain rfl := Option.some.inj hr
      exact done2 (Or.inl rfl) Tryz.results12 rfl rfl ⟨_, _, rfl, rfl, hE10, _, _, rfl, ⟨[], GMat.nil⟩, Vint⟩
    · have hr := ite_f hb12 hr
      refine W_skip ?_
      refine then_n ?_
      refine W_seq ?_
      refine W_seq ?_
      refine W_region ?_
      refine L_move g11_0 (by decide) ?_
      obtain ⟨y13, hy14, hr⟩ := bind_some hr
      refine L_calls cal49 (args1 (rfl : _ = w0)) (check_sized_ok N _ _ _ (h0.mono l9) y13 hy14) (by decide) ?_
      intro v15 s18 e16 hv17
      have hE19 := Tch.ext hE10 e16
      obtain rfl := hv17.int
      refine L_assign (rfl : _ = Value.int .i64 (y13)) (by decide) ?_
      refine L_nil ?_
      refine then_n ?_
      refine W_seq ?_
      refine W_region ?_
      refine L_move (rfl : _ = Value.int .i64 (y13)) (by decide) ?_
      refine L_neq (rfl : _ = Value.int .i64 (y13)) (rfl : _ = Value.int .i64 (0)) (by decide) ?_
      refine L_nil ?_
      refine then_n ?_
      refine W_cond _ (rfl : _ = Value.bool (!decide (y13 = 0))) (fun hb20 => ?_) (fun hb20 => ?_)
      · have hr := ite_t hb20 hr
        refine W_seq ?_
        refine W_region ?_
        refine L_move (rfl : _ = Value.int .i64 (y13)) (by decide) ?_
        refine L_assign (rfl : _ = Value.slice none 0 0) (by decide) ?_
        refine L_assign (rfl : _ = Value.int .i64 (y13)) (by decide) ?_
        refine L_nil ?_
        refine then_n ?_
        refine W_ret ?_
        refine then_r ?_
        obtain rfl := Option.some.inj hr
        exact done2 (Or.inl rfl) Tryz.results12 rfl rfl ⟨_, _, rfl, rfl, hE19, _, _, rfl, ⟨[], GMat.nil⟩, Vint⟩
      · have hr := ite_f hb20 hr
        refine W_skip ?_
        refine then_n ?_
        refine W_seq ?_
        refine W_region ?_
        obtain ⟨y21, hy22, hr⟩ := bind_some hr
        refine L_calls cal50 (args0) (check_newField_ok N _  y21 hy22) (by decide) ?_
        intro v23 s26 e24 hv25
        have hE27 := Tch.ext hE19 e24
        refine L_assign (rfl : _ = v23) (by decide) ?_
        refine L_nil ?_
        refine then_n ?_
        refine W_seq ?_
        refine W_region ?_
        refine L_assign (rfl : _ = Value.slice none 0 0) (by decide) ?_
        refine L_nil ?_
        refine then_n ?_
        refine W_seq ?_
        refine W_seq ?_
        refine W_region ?_
        refine L_move g11_1 (by decide) ?_
        refine L_move (rfl : _ = Value.int .i64 (0)) (by decide) ?_
        refine L_nil ?_
        refine then_n ?_
        obtain ⟨o33, ho34, hq36⟩ := bind_some hr
        refine W_cut (fun f w => ∃ (s : St) (v32 : Value) (x31 : List (List U8)), s.w = w ∧ Ext s0 s ∧ Le s26 s ∧ x31 = o33 ∧ f 8 = v32 ∧ (∃ vs, GMat s s0.w.heap.size 5 23 v32 vs x31)) ?_ ?_
        · refine W_block ?_
          refine W_loop (fun m f w => ∃ (s : St) (v29 : Value) (x28 : List (List U8)) (x30 : Int), s.w = w ∧ Ext s0 s ∧ Le s26 s ∧ check_Parity_l1 N a0 a1 y21 m x28 x30 = some o33 ∧ f 8 = v29 ∧ (∃ vs, GMat s s0.w.heap.size 5 23 v29 vs x28) ∧ f 33 = Value.int .i64 x30 ∧ f 0 = w0 ∧ f 7 = v23 ∧ f 32 = Value.int .i64 (a1)) N ⟨s26, (Value.slice none 0 0), ([]), 0, rfl, hE27, (Le.refl _), ho34, rfl, ⟨[], GMat.nil⟩, rfl, g11_0, rfl, rfl⟩ ?_
          rintro m35 f66 w67 ⟨s38, v29, x28, x30, rfl, hE40, l39, hr, g41_8, ⟨vs42, hb42⟩, g41_33, g41_0, g41_7, g41_32⟩
          cases m35 with
          | zero => exact absurd hr (by simp [check_Parity_l1])
          | succ m35 =>
            rw [check_Parity_l1.eq_2] at hr
            refine W_seq ?_
            refine W_region ?_
            refine L_lss g41_33 g41_32 (by decide) ?_
            refine L_nil ?_
            refine then_n ?_
            refine W_seq ?_
            refine W_cond _ (rfl : _ = Value.bool (decide (x30 < a1))) (fun hb43 => ?_) (fun hb43 => ?_)
            · have hr := ite_t hb43 hr
              refine W_skip ?_
              refine then_n ?_
              refine W_seq ?_
              refine W_block ?_
              refine W_seq ?_
              refine W_region ?_
              refine L_move g41_33 (by decide) ?_
              refine L_assign (rfl : _ = Value.int .i64 (x30)) (by decide) ?_
              refine L_nil ?_
              refine then_n ?_
              refine W_region ?_
              refine L_move g41_8 (by decide) ?_
              refine L_move g41_7 (by decide) ?_
              refine L_move g41_0 (by decide) ?_
              refine L_len Tryz.underlying22 (rfl : _ = w0) (h0.mono (l9.trans (e16.le.trans (e24.le.trans l39)))) (by decide) ?_
              refine L_move (rfl : _ = Value.int .i64 (x30)) (by decide) ?_
              obtain ⟨hc44, hr⟩ := chk_some hr
              refine L_add (rfl : _ = Value.int .i64 ((a0.length : Int))) (rfl : _ = Value.int .i64 (x30)) hc44 (by decide) ?_
              refine L_move g41_0 (by decide) ?_
              obtain ⟨y45, hy46, hr⟩ := bind_some hr
              refine L_calls cal51 (args3 (rfl : _ = v23) (rfl : _ = Value.int .i64 ((a0.length : Int) + x30)) (rfl : _ = w0)) (check_field_block_okA N _ _ _ (hv25.mono l39) ((a0.length : Int) + x30) _ _ (h0.mono (l9.trans (e16.le.trans (e24.le.trans l39)))) y45 hy46) (by decide) ?_
              intro v47 s50 e48 hv49
              have hE51 := Tch.ext hE40 e48
              refine L_buildSlice (xs := ([⟨v47⟩] : List RawV)) Tryz.underlying22 tyzRaw (Parts_cons rfl (rfl : _ = v47) Parts_nil) (Vs.cons (Vraw hv49.one') Vs.nil) rfl (by decide) (by decide) ?_
              intro s56 v53 e52 hb54 hv55
              have hE57 := Tch.ext hE51 e52
              obtain ⟨hc58, hr⟩ := chk_some hr
              refine L_append (xs := vs42) (B := s0.w.heap.size) Tryz.underlying22 tyzRaw (rfl : _ = v29) (rfl : _ = v53) ((hb42.outer.ext e48).ext e52) (hE57.size) hv55 (by rw [hb42.len]; exact hc58.1) (by rw [hb42.len]; exact hc58.2) (by decide) ?_
              intro v59 s61 g60
              have hE62 := g60.tchM ((hb42.outer.ext e48).ext e52) hE57 (Nat.le_refl _)
              refine L_assign (rfl : _ = v59) (by decide) ?_
              refine L_nil ?_
              refine block_n ?_
              refine then_n ?_
              refine W_region ?_
              obtain ⟨hc63, hr⟩ := chk_some hr
              refine L_add g41_33 (rfl : _ = Value.int .i64 (1)) hc63 (by decide) ?_
              refine L_move (rfl : _ = Value.int .i64 (x30 + 1)) (by decide) ?_
              refine L_nil ?_
              exact then_n ⟨m35, Nat.lt_succ_self _, ⟨s61, v59, (x28 ++ ([y45] : List (List U8))), (x30 + 1), rfl, hE62, (l39.trans (e48.le.trans (e52.le.trans g60.tch.le))), hr, rfl, ⟨_, ((hb42.ext e48).ext e52).push ((hv49.ext e52).base hE40.size) (fun b hb hf => by have h1 := (hv49.lt hb).1; have h2 := (hb42.lt hf).2; omega) g60⟩, rfl, g41_0, g41_7, g41_32⟩⟩
            · have hr := ite_f hb43 hr
              refine W_exit ?_
              refine then_x ?_
              refine then_x ?_
              refine block_here ?_
              exact then_n ⟨s38, v29, x28, rfl, hE40, l39, Option.some.inj hr, g41_8, ⟨vs42, hb42⟩⟩
        · rintro f64 w65 ⟨s68, v32, x31, rfl, hE70, l69, ho34, g71_8, ⟨vs72, hb72⟩⟩
          subst ho34
          have hr := hq36
          try dsimp only at hr
          refine then_n ?_
          refine W_seq ?_
          refine W_region ?_
          refine L_move g71_8 (by decide) ?_
          refine L_assign (rfl : _ = v32) (by decide) ?_
          refine L_assign (rfl : _ = Value.int .i64 (0)) (by decide) ?_
          refine L_nil ?_
          refine then_n ?_
          refine W_ret ?_
          obtain rfl := Option.some.inj hr
          exact done2 (Or.inl rfl) Tryz.results12 rfl rfl ⟨_, _, rfl, rfl, hE70, _, _, rfl, ⟨vs72, hb72⟩, Vint⟩

/-- What holds between two rounds. -/
structure DivG (s0 : St) (l D bo : Nat) (r : Loop) (pre : List (List U8)) (s : St) : Prop where
  ext : Ext s0 s
  rec_ : s.w.heap[l]? = some (.loop r)
  g : s.g l = 0
  dfr : s.w.heap[D]? = some (.deferred (some []))
  gd : s.g D = 0
  out : ∃ vo vs, Var s bo 22 (⟨vo⟩ : RawV) ∧ GMat s s0.w.heap.size 5 23 vo vs pre
theorem DivG.more {s0 s s' : St} {l D bo : Nat} {r : Loop} {pre : List (List U8)} (h : DivG s0 l D bo r pre s) (e : Ext s s') : DivG s0 l D bo r pre s' := by
  obtain ⟨vo, vs, h1, h2⟩ := h.out
  exact ⟨h.ext.trans e, at_ext e h.rec_, (e.g l (at_lt h.rec_) (fun x => x)).trans h.g, at_ext e h.dfr, (e.g D (at_lt h.dfr) (fun x => x)).trans h.gd, vo, vs, h1.ext e, h2.ext e⟩
theorem DivG.begins {s0 s s1 : St} {l D bo : Nat} {r : Loop} {pre : List (List U8)} (h : DivG s0 l D bo r pre s) (t1 : Tch (fun k => k = l) s s1) : ∃ vo vs, Var s1 bo 22 (⟨vo⟩ : RawV) ∧ GMat s1 s0.w.heap.size 5 23 vo vs pre := by
  obtain ⟨vo, vs, h1, h2⟩ := h.out
  refine ⟨vo, vs, h1.tch t1 (fun e => ?_), h2.tch t1 (fun b hb e => ?_)⟩
  · obtain ⟨cs, hc⟩ := h1.heap
    rw [e, h.rec_] at hc; cases hc
  · obtain ⟨cs, T, hc, _⟩ := h2.heap hb
    rw [e, h.rec_] at hc; cases hc
theorem foot_bo {s : St} {B bo : Nat} {vo : Value} {vs : List RawV} {pre : List (List U8)} (hv : Var s bo 22 (⟨vo⟩ : RawV)) (hb : GMat s B 5 23 vo vs pre) : ¬ foot vo vs bo := fun x => by
  obtain ⟨cs, hcs⟩ := hv.heap
  obtain ⟨cs', T, hc, hT⟩ := hb.heap x
  rw [hcs] at hc; injection hc with hc; injection hc with _ hc; subst hc
  rcases hT with h | h <;> cases h
theorem DivG.ends {s0 s s1 s4 s5 s6 : St} {l D bo : Nat} {r r1 : Loop} {pre : List (List U8)} {y : List U8} {vo vo' vy : Value} {vs : List RawV} (h : DivG s0 l D bo r pre s) (t1 : Tch (fun k => k = l) s s1) (h1 : s1.w.heap[l]? = some (.loop r1)) (g1 : s1.g l = 0)
    (hv : Var s1 bo 22 (⟨vo⟩ : RawV)) (hb : GMat s1 s0.w.heap.size 5 23 vo vs pre) (e4 : Ext s1 s4) (hy : ArrS s4 s1.w.heap.size 5 vy y) (g5 : Grows s4 s0.w.heap.size 23 vo vo' (vs ++ [⟨vy⟩]) s5) (t6 : Tch (fun k => k = bo) s5 s6) (hv6 : Var s6 bo 22 (⟨vo'⟩ : RawV)) (hl : s0.w.heap.size ≤ l) (hbo : s0.w.heap.size ≤ bo) :
    s6.w.heap[l]? = some (.loop r1) ∧ Le s (s6.putO l (.loop r)) ∧ DivG s0 l D bo r (pre ++ [y]) (s6.putO l (.loop r)) := by
  have nf : ∀ b o, s1.w.heap[b]? = some o → (∀ cs T z, o ≠ .cells cs T z) → ¬ foot vo vs b := fun b o ho hn x => by
    obtain ⟨cs, T, hc, _⟩ := hb.heap x
    rw [ho] at hc; exact hn _ _ _ (Option.some.inj hc)
  have nlf := nf l _ h1 (fun _ _ _ e => by cases e)
  have hD1 : s1.w.heap[D]? = some (.deferred (some [])) := at_tch t1 h.dfr (fun e => by have := h.dfr; rw [e, h.rec_] at this; cases this)
  have nDf := nf D _ hD1 (fun _ _ _ e => by cases e)
  have nl : ¬ own vo l := fun x => nlf (.inl x)
  have nD : ¬ own vo D := fun x => nDf (.inl x)
  have nbf := foot_bo hv hb
  have nb : ¬ own vo bo := fun x => nbf (.inl x)
  obtain ⟨cs, hcs⟩ := hv.heap
  have lb : l ≠ bo := fun e => by rw [e, hcs] at h1; cases h1
  have Db : D ≠ bo := fun e => by rw [e, hcs] at hD1; cases hD1
  have lD : D ≠ l := fun e => by rw [e, h1] at hD1; cases hD1
  have z4 : s1.w.heap.size ≤ s4.w.heap.size := e4.size
  have h6 : s6.w.heap[l]? = some (.loop r1) := at_tch t6 (at_tch g5.tch (at_ext e4 h1) nl) lb
  have hD6 : s6.w.heap[D]? = some (.deferred (some [])) := at_tch t6 (at_tch g5.tch (at_ext e4 hD1) nD) Db
  have l1 := at_lt h1
  have D1 := at_lt hD1
  have b1 := at_lt hcs
  have z5 : s4.w.heap.size ≤ s5.w.heap.size := g5.tch.size
  have g6 : s6.g l = 0 := by rw [t6.g l (by omega) lb, g5.tch.g l (by omega) nl, e4.g l (by omega) (fun x => x)]; exact g1
  have gD6 : s6.g D = 0 := by rw [t6.g D (by omega) Db, g5.tch.g D (by omega) nD, e4.g D (by omega) (fun x => x), t1.g D (at_lt h.dfr) lD]; exact h.gd
  have t7 : Tch (fun k => k = l) s6 (s6.putO l (.loop r)) := Tch.putO g6
  have E1 : Ext s0 s1 := Tch.trans h.ext t1 (fun k hk => .inr (by subst hk; exact hl))
  have E5 : Ext s0 s5 := Tch.trans (E1.trans e4) g5.tch (fun k hk => .inr (hb.lt (.inl hk)).1)
  have E6 : Ext s0 s6 := Tch.trans E5 t6 (fun k hk => .inr (by subst hk; exact hbo))
  have E7 : Ext s0 (s6.putO l (.loop r)) := Tch.trans E6 t7 (fun k hk => .inr (by subst hk; exact hl))
  have hG := (hb.ext e4).push (hy.base E1.size) (fun b hb1 hf => by have q1 := (hy.lt hb1).1; have q2 := (hb.lt hf).2; omega) g5
  have nf' : ∀ b, b < s1.w.heap.size → ¬ foot vo vs b → ¬ foot vo' (vs ++ [⟨vy⟩]) b := fun b hlt hn x => by
    rcases foot_push g5 x with q | q | q
    · exact hn q
    · have := (hy.lt q).1; omega
    · omega
  refine ⟨h6, t1.le.trans (e4.le.trans (g5.tch.le.trans (t6.le.trans t7.le))), E7, putO_at (at_lt h6), g6, at_tch t7 hD6 lD, gD6, vo', vs ++ [⟨vy⟩], hv6.tch t7 (fun e => lb e.symm), ?_⟩
  exact (hG.tch t6 (fun b x e => nf' bo b1 nbf (e ▸ x))).tch t7 (fun b x e => nf' l l1 nlf (e ▸ x))
theorem check_Divide_okG (N : Nat) (s0 : St) (w0 : Value) (a0 : List U8) (h0 : V s0 w0 a0) (a1 : Int) (a2 : Int) (r : (List (List U8)) × Int) (hr : check_Divide N a0 a1 a2 = some r) :
    Calls Tryz.prog 15 #[w0, .int .i64 a1, .int .i64 a2] s0.w (Ret s0 fun v s => ∃ a b, v = .tuple #[a, b] ∧ (∃ vs, GMat s s0.w.heap.size 5 23 a vs r.1) ∧ V s b r.2) := by
  unfold check_Divide at hr
  have hE0 := Ext.refl s0
  refine Calls_of_WT (n := 84) (args := [w0, .int .i64 a1, .int .i64 a2]) Tryz.func15 rfl rfl (by simp) ?_
  first | refine WT_seq ?_ | refine W_seq ?_
  refine W_region ?_
  refine L_assign (rfl : _ = Value.slice none 0 0) (by decide) ?_
  refine L_assign (rfl : _ = Value.int .i64 (0)) (by decide) ?_
  refine L_nil ?_
  refine then_n ?_
  first | refine WT_seq ?_ | refine W_seq ?_
  obtain ⟨o2, ho3, hq4⟩ := bind_some hr
  refine W_seq_cut (fun f w => ∃ (s : St) (x1 : Bool), s.w = w ∧ Ext s0 s ∧ Le s0 s ∧ x1 = o2 ∧ f 28 = Value.bool x1 ∧ f 0 = w0 ∧ f 1 = Value.int .i64 (a1) ∧ f 6 = Value.slice none 0 0 ∧ f 7 = Value.int .i64 (0) ∧ f 2 = Value.int .i64 (a2)) ?_ ?_
  · have hr := ho3
    refine W_region ?_
    refine L_move (rfl : _ = Value.int .i64 (a1)) (by decide) ?_
    refine L_lss (rfl : _ = Value.int .i64 (a1)) (rfl : _ = Value.int .i64 (1)) (by decide) ?_
    refine L_move (rfl : _ = Value.bool (decide (a1 < 1))) (by decide) ?_
    rcases Bool.eq_false_or_eq_true (decide (a1 < 1)) with hb5 | hb5
    · have hr := ite_t hb5 hr
      refine L_gf (e := 17) (by rfl) (by decide) (rfl : _ = Value.bool (decide (a1 < 1))) hb5 (by decide) ?_
      refine L_gf (e := 17) (by rfl) (by decide) (rfl : _ = Value.bool (decide (a1 < 1))) hb5 (by decide) ?_
      refine L_pick_t (rfl : _ = Value.bool (decide (a1 < 1))) hb5 (rfl : _ = Value.bool (true)) (by decide) ?_
      refine L_move (rfl : _ = Value.bool (true)) (by decide) ?_
      refine L_gf (e := 21) (by rfl) (by decide) (rfl : _ = Value.bool (true)) rfl (by decide) ?_
      refine L_gf (e := 21) (by rfl) (by decide) (rfl : _ = Value.bool (true)) rfl (by decide) ?_
      refine L_pick_t (rfl : _ = Value.bool (true)) rfl (rfl : _ = Value.bool (true)) (by decide) ?_
      refine L_move (rfl : _ = Value.bool (true)) (by decide) ?_
      refine L_gf (e := 25) (by rfl) (by decide) (rfl : _ = Value.bool (true)) rfl (by decide) ?_
      refine L_gf (e := 25) (by rfl) (by decide) (rfl : _ = Value.bool (true)) rfl (by decide) ?_
      refine L_pick_t (rfl : _ = Value.bool (true)) rfl (rfl : _ = Value.bool (true)) (by decide) ?_
      refine L_nil ?_
      exact then_n ⟨s0, true, rfl, hE0, (Le.refl _), Option.some.inj hr, rfl, rfl, rfl, rfl, rfl, rfl⟩
    · have hr := ite_f hb5 hr
      refine L_gt (e := 17) (by rfl) (by decide) (rfl : _ = Value.bool (decide (a1 < 1))) hb5 ?_
      refine L_move (rfl : _ = Value.int .i64 (a1)) (by decide) ?_
      refine L_gt (e := 17) (by rfl) (by decide) (rfl : _ = Value.bool (decide (a1 < 1))) hb5 ?_
      refine L_gtr (rfl : _ = Value.int .i64 (a1)) (rfl : _ = Value.int .i64 (16)) (by decide) ?_
      refine L_pick_f (rfl : _ = Value.bool (decide (a1 < 1))) hb5 (rfl : _ = Value.bool (decide (16 < a1))) (by decide) ?_
      refine L_move (rfl : _ = Value.bool (decide (16 < a1))) (by decide) ?_
      rcases Bool.eq_false_or_eq_true (decide (16 < a1)) with hb6 | hb6
      · have hr := ite_t hb6 hr
        refine L_gf (e := 21) (by rfl) (by decide) (rfl : _ = Value.bool (decide (16 < a1))) hb6 (by decide) ?_
        refine L_gf (e := 21) (by rfl) (by decide) (rfl : _ = Value.bool (decide (16 < a1))) hb6 (by decide) ?_
        refine L_pick_t (rfl : _ = Value.bool (decide (16 < a1))) hb6 (rfl : _ = Value.bool (true)) (by decide) ?_
        refine L_move (rfl : _ = Value.bool (true)) (by decide) ?_
        refine L_gf (e := 25) (by rfl) (by decide) (rfl : _ = Value.bool (true)) rfl (by decide) ?_
        refine L_gf (e := 25) (by rfl) (by decide) (rfl : _ = Value.bool (true)) rfl (by decide) ?_
        refine L_pick_t (rfl : _ = Value.bool (true)) rfl (rfl : _ = Value.bool (true)) (by decide) ?_
        refine L_nil ?_
        exact then_n ⟨s0, true, rfl, hE0, (Le.refl _), Option.some.inj hr, rfl, rfl, rfl, rfl, rfl, rfl⟩
      · have hr := ite_f hb6 hr
        refine L_gt (e := 21) (by rfl) (by decide) (rfl : _ = Value.bool (decide (16 < a1))) hb6 ?_
        refine L_move (rfl : _ = Value.int .i64 (a2)) (by decide) ?_
        refine L_gt (e := 21) (by rfl) (by decide) (rfl : _ = Value.bool (decide (16 < a1))) hb6 ?_
        refine L_lss (rfl : _ = Value.int .i64 (a2)) (rfl : _ = Value.int .i64 (0)) (by decide) ?_
        refine L_pick_f (rfl : _ = Value.bool (decide (16 < a1))) hb6 (rfl : _ = Value.bool (decide (a2 < 0))) (by decide) ?_
        refine L_move (rfl : _ = Value.bool (decide (a2 < 0))) (by decide) ?_
        rcases Bool.eq_false_or_eq_true (decide (a2 < 0)) with hb7 | hb7
        · have hr := ite_t hb7 hr
          refine L_gf (e := 25) (by rfl) (by decide) (rfl : _ = Value.bool (decide (a2 < 0))) hb7 (by decide) ?_
          refine L_gf (e := 25) (by rfl) (by decide) (rfl : _ = Value.bool (decide (a2 < 0))) hb7 (by decide) ?_
          refine L_pick_t (rfl : _ = Value.bool (decide (a2 < 0))) hb7 (rfl : _ = Value.bool (true)) (by decide) ?_
          refine L_nil ?_
          exact then_n ⟨s0, true, rfl, hE0, (Le.refl _), Option.some.inj hr, rfl, rfl, rfl, rfl, rfl, rfl⟩
        · have hr := ite_f hb7 hr
          refine L_gt (e := 25) (by rfl) (by decide) (rfl : _ = Value.bool (decide (a2 < 0))) hb7 ?_
          refine L_move (rfl : _ = Value.int .i64 (a2)) (by decide) ?_
          refine L_gt (e := 25) (by rfl) (by decide) (rfl : _ = Value.bool (decide (a2 < 0))) hb7 ?_
          refine L_gtr (rfl : _ = Value.int .i64 (a2)) (rfl : _ = Value.int .i64 (16)) (by decide) ?_
          refine L_pick_f (rfl : _ = Value.bool (decide (a2 < 0))) hb7 (rfl : _ = Value.bool (decide (16 < a2))) (by decide) ?_
          refine L_nil ?_
          exact then_n ⟨s0, (decide (16 < a2)), rfl, hE0, (Le.refl _), Option.some.inj hr, rfl, rfl, rfl, rfl, rfl, rfl⟩
  · rintro f39 w40 ⟨s8, x1, rfl, hE10, l9, ho3, g11_28, g11_0, g11_1, g11_6, g11_7, g11_2⟩
    subst ho3
    have hr := hq4
    try dsimp only at hr
    refine W_cond _ g11_28 (fun hb12 => ?_) (fun hb12 => ?_)
    · have hr := ite_t hb12 hr
      first | refine WT_seq ?_ | refine W_seq ?_
      refine W_region ?_
      refine L_assign (rfl : _ = Value.slice none 0 0) (by decide) ?_
      refine L_assign (rfl : _ = Value.int .i64 (3)) (by decide) ?_
      refine L_nil ?_
      refine then_n ?_
      refine W_ret ?_
      refine then_r ?_
      obtain rfl := Option.some.inj hr
      exact fun a ha => done_plain ha (done2 (Or.inl rfl) Tryz.results15 rfl rfl ⟨_, _, rfl, rfl, hE10, _, _, rfl, ⟨[], GMat.nil⟩, Vint⟩)
    · have hr := ite_f hb12 hr
      refine W_skip ?_
      refine then_n ?_
      first | refine WT_seq ?_ | refine W_seq ?_
      refine W_region ?_
      refine L_move g11_0 (by decide) ?_
      refine L_len Tryz.underlying23 (rfl : _ = w0) (h0.mono l9) (by decide) ?_
      obtain ⟨hc13, hr⟩ := chk_some hr
      refine L_add (rfl : _ = Value.int .i64 ((a0.length : Int))) (rfl : _ = Value.int .i64 (4)) hc13 (by decide) ?_
      refine L_move g11_1 (by decide) ?_
      obtain ⟨hc14, hr⟩ := chk_some hr
      refine L_add (rfl : _ = Value.int .i64 ((a0.length : Int) + 4)) (rfl : _ = Value.int .i64 (a1)) hc14 (by decide) ?_
      obtain ⟨hc15, hr⟩ := chk_some hr
      refine L_sub (rfl : _ = Value.int .i64 ((a0.length : Int) + 4 + a1)) (rfl : _ = Value.int .i64 (1)) hc15 (by decide) ?_
      refine L_move g11_1 (by decide) ?_
      obtain ⟨hc16, hr⟩ := chk_some hr
      refine L_quo (rfl : _ = Value.int .i64 ((a0.length : Int) + 4 + a1 - 1)) (rfl : _ = Value.int .i64 (a1)) hc16.1 hc16.2 (by decide) ?_
      refine L_assign (rfl : _ = Value.int .i64 (Int.tdiv ((a0.length : Int) + 4 + a1 - 1) a1)) (by decide) ?_
      refine L_nil ?_
      refine then_n ?_
      first | refine WT_seq ?_ | refine W_seq ?_
      first | refine WT_seq ?_ | refine W_seq ?_
      refine W_region ?_
      refine L_move (rfl : _ = Value.int .i64 (Int.tdiv ((a0.length : Int) + 4 + a1 - 1) a1)) (by decide) ?_
      refine L_gtr (rfl : _ = Value.int .i64 (Int.tdiv ((a0.length : Int) + 4 + a1 - 1) a1)) (rfl : _ = Value.int .i64 (65536)) (by decide) ?_
      refine L_nil ?_
      refine then_n ?_
      refine W_cond _ (rfl : _ = Value.bool (decide (65536 < (Int.tdiv ((a0.length : Int) + 4 + a1 - 1) a1)))) (fun hb17 => ?_) (fun hb17 => ?_)
      · have hr := ite_t hb17 hr
        first | refine WT_seq ?_ | refine W_seq ?_
        refine W_region ?_
        refine L_assign (rfl : _ = Value.slice none 0 0) (by decide) ?_
        refine L_assign (rfl : _ = Value.int .i64 (8)) (by decide) ?_
        refine L_nil ?_
        refine then_n ?_
        refine W_ret ?_
        refine then_r ?_
        obtain rfl := Option.some.inj hr
        exact fun a ha => done_plain ha (done2 (Or.inl rfl) Tryz.results15 rfl rfl ⟨_, _, rfl, rfl, hE10, _, _, rfl, ⟨[], GMat.nil⟩, Vint⟩)
      · have hr := ite_f hb17 hr
        refine W_skip ?_
        refine then_n ?_
        first | refine WT_seq ?_ | refine W_seq ?_
        refine W_region ?_
        refine L_move g11_0 (by decide) ?_
        refine L_len Tryz.underlying23 (rfl : _ = w0) (h0.mono l9) (by decide) ?_
        refine L_assign (rfl : _ = Value.int .i64 ((a0.length : Int))) (by decide) ?_
        refine L_nil ?_
        refine then_n ?_
        first | refine WT_seq ?_ | refine W_seq ?_
        refine W_region ?_
        refine L_move (rfl : _ = Value.int .i64 (Int.tdiv ((a0.length : Int) + 4 + a1 - 1) a1)) (by decide) ?_
        refine L_move g11_1 (by decide) ?_
        obtain ⟨hc18, hr⟩ := chk_some hr
        refine L_mul (rfl : _ = Value.int .i64 (Int.tdiv ((a0.length : Int) + 4 + a1 - 1) a1)) (rfl : _ = Value.int .i64 (a1)) hc18 (by decide) ?_
        obtain ⟨hc19, hr⟩ := chk_some hr
        refine L_makeArr (x0 := (⟨0⟩ : U8)) Tryz.underlying23 tyz5 (rfl : _ = Value.int .i64 ((Int.tdiv ((a0.length : Int) + 4 + a1 - 1) a1) * a1)) hc19.1 hc19.2.1 hc19.2.2 (fun _ => rfl) (by decide) ?_
        intro s24 b21 e20 hb22 hv23
        have hE25 := Tch.ext hE10 e20
        refine L_assign (rfl : _ = Value.slice (some ⟨b21, 0, none⟩) ((Int.tdiv ((a0.length : Int) + 4 + a1 - 1) a1) * a1).toNat ((Int.tdiv ((a0.length : Int) + 4 + a1 - 1) a1) * a1).toNat) (by decide) ?_
        refine L_nil ?_
        refine then_n ?_
        first | refine WT_seq ?_ | refine W_seq ?_
        refine W_region ?_
        refine L_move (rfl : _ = Value.slice (some ⟨b21, 0, none⟩) ((Int.tdiv ((a0.length : Int) + 4 + a1 - 1) a1) * a1).toNat ((Int.tdiv ((a0.length : Int) + 4 + a1 - 1) a1) * a1).toNat) (by decide) ?_
        refine L_move (rfl : _ = Value.int .i64 ((a0.length : Int))) (by decide) ?_
        obtain ⟨hc26, hr⟩ := chk_some hr
        refine L_shrK (rfl : _ = Value.int .i64 ((a0.length : Int))) (rfl : _ = Value.int .u64 ((⟨24⟩ : U64)).n) hc26 (by decide) ?_
        refine L_convK Tryz.underlying3 Tryz.underlying5 (rfl : _ = Value.int .i64 (shrK .i64 (a0.length : Int) (⟨24⟩ : U64).n)) (by decide) ?_
        refine L_move (rfl : _ = Value.int .i64 ((a0.length : Int))) (by decide) ?_
        obtain ⟨hc27, hr⟩ := chk_some hr
        refine L_shrK (rfl : _ = Value.int .i64 ((a0.length : Int))) (rfl : _ = Value.int .u64 ((⟨16⟩ : U64)).n) hc27 (by decide) ?_
        refine L_convK Tryz.underlying3 Tryz.underlying5 (rfl : _ = Value.int .i64 (shrK .i64 (a0.length : Int) (⟨16⟩ : U64).n)) (by decide) ?_
        refine L_move (rfl : _ = Value.int .i64 ((a0.length : Int))) (by decide) ?_
        obtain ⟨hc28, hr⟩ := chk_some hr
        refine L_shrK (rfl : _ = Value.int .i64 ((a0.length : Int))) (rfl : _ = Value.int .u64 ((⟨8⟩ : U64)).n) hc28 (by decide) ?_
        refine L_convK Tryz.underlying3 Tryz.underlying5 (rfl : _ = Value.int .i64 (shrK .i64 (a0.length : Int) (⟨8⟩ : U64).n)) (by decide) ?_
        refine L_move (rfl : _ = Value.int .i64 ((a0.length : Int))) (by decide) ?_
        refine L_convK Tryz.underlying3 Tryz.underlying5 (rfl : _ = Value.int .i64 ((a0.length : Int))) (by decide) ?_
        refine L_buildSlice (xs := ([(⟨convK .u8 (shrK .i64 (a0.length : Int) (⟨24⟩ : U64).n)⟩ : U8), (⟨convK .u8 (shrK .i64 (a0.length : Int) (⟨16⟩ : U64).n)⟩ : U8), (⟨convK .u8 (shrK .i64 (a0.length : Int) (⟨8⟩ : U64).n)⟩ : U8), (⟨convK .u8 (a0.length : Int)⟩ : U8)] : List U8)) Tryz.underlying23 tyz5 (Parts_cons rfl (rfl : _ = Value.int .u8 ((⟨convK .u8 (shrK .i64 (a0.length : Int) (⟨24⟩ : U64).n)⟩ : U8)).n) (Parts_cons rfl (rfl : _ = Value.int .u8 ((⟨convK .u8 (shrK .i64 (a0.length : Int) (⟨16⟩ : U64).n)⟩ : U8)).n) (Parts_cons rfl (rfl : _ = Value.int .u8 ((⟨convK .u8 (shrK .i64 (a0.length : Int) (⟨8⟩ : U64).n)⟩ : U8)).n) (Parts_cons rfl (rfl : _ = Value.int .u8 ((⟨convK .u8 (a0.length : Int)⟩ : U8)).n) Parts_nil)))) (Vs.cons Vu8 (Vs.cons Vu8 (Vs.cons Vu8 (Vs.cons Vu8 Vs.nil)))) rfl (by decide) (by decide) ?_
        intro s33 v30 e29 hb31 hv32
        have hE34 := Tch.ext hE25 e29
        refine L_copyA (xs := (List.replicate ((Int.tdiv ((a0.length : Int) + 4 + a1 - 1) a1) * a1).toNat (⟨0⟩ : U8))) flatU8 Tryz.underlying23 ty5.inf (rfl : _ = Value.slice (some ⟨b21, 0, none⟩) ((Int.tdiv ((a0.length : Int) + 4 + a1 - 1) a1) * a1).toNat ((Int.tdiv ((a0.length : Int) + 4 + a1 - 1) a1) * a1).toNat) ((hv23).ext e29) (rfl : _ = v30) hv32 (by decide) ?_
        intro s37 e35 hv36
        have hE38 := Tch.trans hE34 e35 (fun k hk => Or.inr (by subst hk; exact (Nat.le_trans hE10.size hb22)))
        refine L_nil ?_
        refine then_n ?_
        refine WT_seq ?_
        refine W_region ?_
        refine L_move (rfl : _ = Value.slice (some ⟨b21, 0, none⟩) ((Int.tdiv ((a0.length : Int) + 4 + a1 - 1) a1) * a1).toNat ((Int.tdiv ((a0.length : Int) + 4 + a1 - 1) a1) * a1).toNat) (by decide) ?_
        obtain ⟨hc40, hr⟩ := chk_some hr
        refine L_sliceA_e Tryz.underlying23 ty5.inf (rfl : _ = Value.slice (some ⟨b21, 0, none⟩) ((Int.tdiv ((a0.length : Int) + 4 + a1 - 1) a1) * a1).toNat ((Int.tdiv ((a0.length : Int) + 4 + a1 - 1) a1) * a1).toNat) (rfl : _ = Value.int .i64 4) (by decide) hc40 (by decide) ?_
        intro ve hve
        refine L_move g11_0 (by decide) ?_
        refine L_copyE (lo := 4) flatU8 Tryz.underlying23 ty5.inf (rfl : _ = ve) hve hv36 (by omega) (rfl : _ = w0) (h0.mono (l9.trans (e20.le.trans (e29.le.trans e35.le)))) (by decide) ?_
        intro s41 e41 hv41
        have hE41 := Tch.trans hE38 e41 (fun k hk => Or.inr (by subst hk; exact (Nat.le_trans hE10.size hb22)))
        refine L_nil ?_
        refine then_n ?_
        refine WT_seq ?_
        refine W_region ?_
        refine L_alloc (α := RawV) (z := .slice none 0 0) (x := (⟨.slice none 0 0⟩ : RawV)) (by kernel_rfl) (fun _ => ⟨rfl, rfl⟩) (by decide) ?_
        intro s42 bo e42 hbo hvo
        have hE42 := Tch.ext hE41 e42
        refine L_nil ?_
        refine then_n ?_
        obtain ⟨hc43, hr⟩ := chk_some hr
        obtain ⟨out, ho, hr⟩ := bind_some hr
        obtain ⟨pr, hpr, hr⟩ := bind_some hr
        refine WT_seqT ?_
        refine WT_seq ?_
        refine W_region ?_
        refine L_move (rfl : _ = Value.slice (some ⟨b21, 0, none⟩) ((Int.tdiv ((a0.length : Int) + 4 + a1 - 1) a1) * a1).toNat ((Int.tdiv ((a0.length : Int) + 4 + a1 - 1) a1) * a1).toNat) (by decide) ?_
        refine L_move (rfl : _ = Value.int .i64 (Int.tdiv ((a0.length : Int) + 4 + a1 - 1) a1)) (by decide) ?_
        obtain ⟨s43, e43, t43, hall⟩ := (hv41.ext e42).freeze
        have hb41 := hv41.lt
        have hE43 : Ext s0 s43 := Tch.trans hE42 t43 (fun k hk => Or.inr (by subst hk; exact (Nat.le_trans hE10.size hb22)))
        have hvo43 : Var s43 bo 22 (⟨.slice none 0 0⟩ : RawV) := hvo.tch t43 (fun e => by omega)
        rw [← e43]
        refine L_calls calD_ch (args2 (rfl : _ = Value.slice (some ⟨b21, 0, none⟩) ((Int.tdiv ((a0.length : Int) + 4 + a1 - 1) a1) * a1).toNat ((Int.tdiv ((a0.length : Int) + 4 + a1 - 1) a1) * a1).toNat) (rfl : _ = Value.int .i64 (Int.tdiv ((a0.length : Int) + 4 + a1 - 1) a1))) (chunk_ok s43 _ (cpy (cpy (List.replicate ((Int.tdiv ((a0.length : Int) + 4 + a1 - 1) a1) * a1).toNat (⟨0⟩ : U8)) 0 ([(⟨convK .u8 (shrK .i64 (a0.length : Int) (⟨24⟩ : U64).n)⟩ : U8), (⟨convK .u8 (shrK .i64 (a0.length : Int) (⟨16⟩ : U64).n)⟩ : U8), (⟨convK .u8 (shrK .i64 (a0.length : Int) (⟨8⟩ : U64).n)⟩ : U8), (⟨convK .u8 (a0.length : Int)⟩ : U8)] : List U8)) 4 a0) hall (Int.tdiv ((a0.length : Int) + 4 + a1 - 1) a1) hc43) (by decide) ?_
        rintro v44 s44 e44 ⟨pa, pb, rfl, hpa, hpb⟩
        have hE44 := hE43.trans e44
        have hbo0 : s0.w.heap.size ≤ bo := Nat.le_trans hE41.size hbo
        refine L_nil ?_
        refine then_n ?_
        have qb : ∀ (v : Value), True := fun _ => trivial
        clear qb
        generalize hf0 : (upd _ 65 _ : Fr) = f0
        have fb : f0 11 = .pointer (some ⟨bo, 0, none⟩) := by rw [← hf0]; rfl
        have f2 : f0 2 = .int .i64 a2 := by rw [← hf0]; exact g11_2
        have fg : f0 65 = .func (.func 103) #[] #[pa, pb] := by rw [← hf0]; rfl
        clear hf0
        refine WT_block ?_
        intro a ha
        refine range_ok (s := s44) (by rw [ha.ev]; exact fg) calD_it ?_
        intro fn
        have hlo : s0.w.heap.size ≤ s44.w.heap.size + 1 := Nat.le_succ_of_le hE44.size
        generalize hr0 : loopOf fn a.tmps _ _ _ s44.w.heap.size = r0
        obtain ⟨q1, q2, q3, q4⟩ := looped_facts s44 r0
        have eL := looped_ext s44 r0
        have J0 : DivG s0 (s44.w.heap.size + 1) s44.w.heap.size bo r0 [] (s44.looped r0) := ⟨hE44.trans eL, q1, q2, q3, q4, _, _, (hvo43.ext e44).ext eL, GMat.nil⟩
        refine Calls.mono (iter_ok N (s44.looped r0) (s44.w.heap.size + 1) r0 (DivG s0 (s44.w.heap.size + 1) s44.w.heap.size bo r0) pa pb (cpy (cpy (List.replicate ((Int.tdiv ((a0.length : Int) + 4 + a1 - 1) a1) * a1).toNat (⟨0⟩ : U8)) 0 ([(⟨convK .u8 (shrK .i64 (a0.length : Int) (⟨24⟩ : U64).n)⟩ : U8), (⟨convK .u8 (shrK .i64 (a0.length : Int) (⟨16⟩ : U64).n)⟩ : U8), (⟨convK .u8 (shrK .i64 (a0.length : Int) (⟨8⟩ : U64).n)⟩ : U8), (⟨convK .u8 (a0.length : Int)⟩ : U8)] : List U8)) 4 a0) (Int.tdiv ((a0.length : Int) + 4 + a1 - 1) a1) (hpa.mono eL.le) (hpb.mono eL.le) (by rw [← hr0]; rfl) J0 (fun _ _ h => h.rec_) (fun _ _ _ h e => h.more e) ?_ out ho) ?_
        · intro pre s v x y hJ hLe hv hy hc
          subst hr0
          refine round_st (n := 84) (f := upd f0 66 v) (s := s) (fits_round ha (by decide)) hJ.rec_ rfl hJ.g rfl ?_
          refine L_assign (rfl : _ = v) (by decide) ?_
          refine L_nil ⟨rfl, rfl, ?_⟩
          intro s1 r1 t1 hrec1 hg1 hrr
          obtain ⟨vo, vs, hvar, hbld⟩ := hJ.begins t1
          have eD := Ext.drew s1
          have qb : ∀ (g : Fr), g 11 = f0 11 → g 11 = .pointer (some ⟨bo, 0, none⟩) := fun _ h => h.trans fb
          refine WR_block ?_
          refine WR_any (s := s1) mixedD rfl ?_
          refine AN_two 0 1 (by kernel_rfl) rfl rfl rfl rfl ?_ ?_
          · refine L_load_var tyRawV (qb _ rfl) (hvar.ext eD) (by decide) ?_
            intro u hu
            obtain rfl : vo = u := hu.raw.symm
            refine L_nil ⟨rfl, ?_⟩
            refine AN_one 1 (by kernel_rfl) rfl rfl ?_
            refine L_move (rfl : _ = v) (by decide) ?_
            refine L_nil ⟨rfl, ?_⟩
            refine AN_one 2 (by kernel_rfl) rfl rfl ?_
            refine L_calls (s := s1.drew) calD_cl (args1 (rfl : _ = v)) (slices_Clone_Lbyte_byte_okA N _ v x ((hv.mono t1.le).mono eD.le) y hy) (by decide) ?_
            intro vy s3' e3' hvy'
            obtain ⟨s3, e3w, e3, hvy⟩ := Bld.thaw flatU8 e3' hvy'
            rw [← e3w]
            refine L_nil ⟨rfl, ?_⟩
            refine AN_one 3 (by kernel_rfl) rfl rfl ?_
            refine L_buildSlice (s := s3) (xs := ([⟨vy⟩] : List RawV)) Tryz.underlying22 tyzRaw (Parts_cons rfl (rfl : _ = vy) Parts_nil) (Vs.cons (Vraw hvy.one') Vs.nil) rfl (by decide) (by decide) ?_
            intro s4 vb e4 _ hv4
            have E4 := (eD.trans e3).trans e4
            refine L_nil ⟨rfl, ?_⟩
            refine AN_one 4 (by kernel_rfl) rfl rfl ?_
            refine L_append (s := s4) (xs := vs) (B := s0.w.heap.size) Tryz.underlying22 tyzRaw (rfl : _ = vo) (rfl : _ = vb) (hbld.outer.ext E4) (Nat.le_trans hJ.ext.size (Nat.le_trans t1.size E4.size)) hv4 (by rw [hbld.len]; exact hc.1) (by rw [hbld.len]; exact hc.2) (by decide) ?_
            intro vo' s5 g5
            refine L_nil ⟨rfl, ?_⟩
            refine AN_one 5 (by kernel_rfl) rfl rfl ?_
            obtain ⟨cs, hcs⟩ := hvar.heap
            refine L_store (s := s5) tyRawV (qb _ rfl) (rfl : _ = vo') (Vraw g5.bld.one') ((hvar.ext E4).tch g5.tch (fun x => foot_bo hvar hbld (.inl x))) ?_
            intro s6 t6 hv6
            obtain ⟨k1, k2, k3⟩ := hJ.ends t1 hrec1 hg1 hvar hbld E4 ((hvy.ext e4).base eD.size) g5 t6 hv6 hlo hbo0
            have hr2 := congrArg (fun x : Loop => { x with pending := none }) hrr
            refine L_nil ⟨rfl, ?_⟩
            exact AN_done (by kernel_rfl) ⟨rfl, rfl, k1, rfl, s6.putO _ _, congrArg (fun x : Loop => s6.w.putObj (s44.w.heap.size + 1) (.loop x)) hr2.symm, k2, k3⟩
          · refine L_move (rfl : _ = v) (by decide) ?_
            refine L_nil ⟨rfl, ?_⟩
            refine AN_two 0 2 (by kernel_rfl) rfl rfl rfl rfl ?_ ?_
            · refine L_load_var tyRawV (qb _ rfl) (hvar.ext eD) (by decide) ?_
              intro u hu
              obtain rfl : vo = u := hu.raw.symm
              refine L_nil ⟨rfl, ?_⟩
              refine AN_one 2 (by kernel_rfl) rfl rfl ?_
              refine L_calls (s := s1.drew) calD_cl (args1 (rfl : _ = v)) (slices_Clone_Lbyte_byte_okA N _ v x ((hv.mono t1.le).mono eD.le) y hy) (by decide) ?_
              intro vy s3' e3' hvy'
              obtain ⟨s3, e3w, e3, hvy⟩ := Bld.thaw flatU8 e3' hvy'
              rw [← e3w]
              refine L_nil ⟨rfl, ?_⟩
              refine AN_one 3 (by kernel_rfl) rfl rfl ?_
              refine L_buildSlice (s := s3) (xs := ([⟨vy⟩] : List RawV)) Tryz.underlying22 tyzRaw (Parts_cons rfl (rfl : _ = vy) Parts_nil) (Vs.cons (Vraw hvy.one') Vs.nil) rfl (by decide) (by decide) ?_
              intro s4 vb e4 _ hv4
              have E4 := (eD.trans e3).trans e4
              refine L_nil ⟨rfl, ?_⟩
              refine AN_one 4 (by kernel_rfl) rfl rfl ?_
              refine L_append (s := s4) (xs := vs) (B := s0.w.heap.size) Tryz.underlying22 tyzRaw (rfl : _ = vo) (rfl : _ = vb) (hbld.outer.ext E4) (Nat.le_trans hJ.ext.size (Nat.le_trans t1.size E4.size)) hv4 (by rw [hbld.len]; exact hc.1) (by rw [hbld.len]; exact hc.2) (by decide) ?_
              intro vo' s5 g5
              refine L_nil ⟨rfl, ?_⟩
              refine AN_one 5 (by kernel_rfl) rfl rfl ?_
              obtain ⟨cs, hcs⟩ := hvar.heap
              refine L_store (s := s5) tyRawV (qb _ rfl) (rfl : _ = vo') (Vraw g5.bld.one') ((hvar.ext E4).tch g5.tch (fun x => foot_bo hvar hbld (.inl x))) ?_
              intro s6 t6 hv6
              obtain ⟨k1, k2, k3⟩ := hJ.ends t1 hrec1 hg1 hvar hbld E4 ((hvy.ext e4).base eD.size) g5 t6 hv6 hlo hbo0
              have hr2 := congrArg (fun x : Loop => { x with pending := none }) hrr
              refine L_nil ⟨rfl, ?_⟩
              exact AN_done (by kernel_rfl) ⟨rfl, rfl, k1, rfl, s6.putO _ _, congrArg (fun x : Loop => s6.w.putObj (s44.w.heap.size + 1) (.loop x)) hr2.symm, k2, k3⟩
            · refine L_calls (s := s1.drew) calD_cl (args1 (rfl : _ = v)) (slices_Clone_Lbyte_byte_okA N _ v x ((hv.mono t1.le).mono eD.le) y hy) (by decide) ?_
              intro vy s3' e3' hvy'
              obtain ⟨s3, e3w, e3, hvy⟩ := Bld.thaw flatU8 e3' hvy'
              rw [← e3w]
              refine L_nil ⟨rfl, ?_⟩
              refine AN_two 0 3 (by kernel_rfl) rfl rfl rfl rfl ?_ ?_
              · refine L_load_var tyRawV (qb _ rfl) (hvar.ext (eD.trans e3)) (by decide) ?_
                intro u hu
                obtain rfl : vo = u := hu.raw.symm
                refine L_nil ⟨rfl, ?_⟩
                refine AN_one 3 (by kernel_rfl) rfl rfl ?_
                refine L_buildSlice (s := s3) (xs := ([⟨vy⟩] : List RawV)) Tryz.underlying22 tyzRaw (Parts_cons rfl (rfl : _ = vy) Parts_nil) (Vs.cons (Vraw hvy.one') Vs.nil) rfl (by decide) (by decide) ?_
                intro s4 vb e4 _ hv4
                have E4 := (eD.trans e3).trans e4
                refine L_nil ⟨rfl, ?_⟩
                refine AN_one 4 (by kernel_rfl) rfl rfl ?_
                refine L_append (s := s4) (xs := vs) (B := s0.w.heap.size) Tryz.underlying22 tyzRaw (rfl : _ = vo) (rfl : _ = vb) (hbld.outer.ext E4) (Nat.le_trans hJ.ext.size (Nat.le_trans t1.size E4.size)) hv4 (by rw [hbld.len]; exact hc.1) (by rw [hbld.len]; exact hc.2) (by decide) ?_
                intro vo' s5 g5
                refine L_nil ⟨rfl, ?_⟩
                refine AN_one 5 (by kernel_rfl) rfl rfl ?_
                obtain ⟨cs, hcs⟩ := hvar.heap
                refine L_store (s := s5) tyRawV (qb _ rfl) (rfl : _ = vo') (Vraw g5.bld.one') ((hvar.ext E4).tch g5.tch (fun x => foot_bo hvar hbld (.inl x))) ?_
                intro s6 t6 hv6
                obtain ⟨k1, k2, k3⟩ := hJ.ends t1 hrec1 hg1 hvar hbld E4 ((hvy.ext e4).base eD.size) g5 t6 hv6 hlo hbo0
                have hr2 := congrArg (fun x : Loop => { x with pending := none }) hrr
                refine L_nil ⟨rfl, ?_⟩
                exact AN_done (by kernel_rfl) ⟨rfl, rfl, k1, rfl, s6.putO _ _, congrArg (fun x : Loop => s6.w.putObj (s44.w.heap.size + 1) (.loop x)) hr2.symm, k2, k3⟩
              · refine L_buildSlice (s := s3) (xs := ([⟨vy⟩] : List RawV)) Tryz.underlying22 tyzRaw (Parts_cons rfl (rfl : _ = vy) Parts_nil) (Vs.cons (Vraw hvy.one') Vs.nil) rfl (by decide) (by decide) ?_
                intro s4 vb e4 _ hv4
                have E4 := (eD.trans e3).trans e4
                refine L_nil ⟨rfl, ?_⟩
                refine AN_one 0 (by kernel_rfl) rfl rfl ?_
                refine L_load_var tyRawV (qb _ rfl) (hvar.ext E4) (by decide) ?_
                intro u hu
                obtain rfl : vo = u := hu.raw.symm
                refine L_nil ⟨rfl, ?_⟩
                refine AN_one 4 (by kernel_rfl) rfl rfl ?_
                refine L_append (s := s4) (xs := vs) (B := s0.w.heap.size) Tryz.underlying22 tyzRaw (rfl : _ = vo) (rfl : _ = vb) (hbld.outer.ext E4) (Nat.le_trans hJ.ext.size (Nat.le_trans t1.size E4.size)) hv4 (by rw [hbld.len]; exact hc.1) (by rw [hbld.len]; exact hc.2) (by decide) ?_
                intro vo' s5 g5
                refine L_nil ⟨rfl, ?_⟩
                refine AN_one 5 (by kernel_rfl) rfl rfl ?_
                obtain ⟨cs, hcs⟩ := hvar.heap
                refine L_store (s := s5) tyRawV (qb _ rfl) (rfl : _ = vo') (Vraw g5.bld.one') ((hvar.ext E4).tch g5.tch (fun x => foot_bo hvar hbld (.inl x))) ?_
                intro s6 t6 hv6
                obtain ⟨k1, k2, k3⟩ := hJ.ends t1 hrec1 hg1 hvar hbld E4 ((hvy.ext e4).base eD.size) g5 t6 hv6 hlo hbo0
                have hr2 := congrArg (fun x : Loop => { x with pending := none }) hrr
                refine L_nil ⟨rfl, ?_⟩
                exact AN_done (by kernel_rfl) ⟨rfl, rfl, k1, rfl, s6.putO _ _, congrArg (fun x : Loop => s6.w.putObj (s44.w.heap.size + 1) (.loop x)) hr2.symm, k2, k3⟩
        · rintro e w3 ⟨s50, rfl, rfl, hL50, hJ50⟩
          refine ⟨_, rfl, r0, hJ50.rec_, by rw [← hr0]; rfl, by rw [← hr0]; rfl, ?_⟩
          refine tail_ok ha ?_
          have t51 : Tch (fun k => k = s44.w.heap.size + 1) s50 (s50.putO (s44.w.heap.size + 1) (.loop { r0 with state := .exhausted })) := Tch.putO hJ50.g
          show WR _ _ _ _ _ _ _ (s50.putO (s44.w.heap.size + 1) (.loop { r0 with state := .exhausted })).w
          generalize s50.putO (s44.w.heap.size + 1) (.loop { r0 with state := .exhausted }) = s51 at *
          obtain ⟨vo, vs, hvar, hbld⟩ := hJ50.begins t51
          have E51 : Ext s0 s51 := Tch.trans hJ50.ext t51 (fun k hk => .inr (by subst hk; exact hlo))
          have hD51 : s51.w.heap[s44.w.heap.size]? = some (.deferred (some [])) := at_tch t51 hJ50.dfr (fun e => by omega)
          have gD51 : s51.g s44.w.heap.size = 0 := by rw [t51.g _ (at_lt hJ50.dfr) (fun e => by omega)]; exact hJ50.gd
          have hDlo : s0.w.heap.size ≤ s44.w.heap.size := hE44.size
          clear t51 hJ50 hL50 J0 eL q1 q2 q3 q4
          generalize s44.w.heap.size = D at *
          have nDf : ¬ foot vo vs D := fun x => by obtain ⟨cs, T, hc, _⟩ := hbld.heap x; rw [hD51] at hc; cases hc
          have nD : ¬ own vo D := fun x => nDf (.inl x)
          refine WR_seq ?_
          refine WR_region rfl (by rintro f w ⟨_, h | h, _⟩ <;> cases h) ?_
          refine L_load_var tyRawV fb hvar (by decide) ?_
          intro u hu
          obtain rfl : vo = u := hu.raw.symm
          refine L_move f2 (by decide) ?_
          obtain ⟨s52, e52, t52, hV52⟩ := hbld.freezeR
          rw [← e52]
          refine L_calls (s := s52) calD_pa (args2 (rfl : _ = vo) (rfl : _ = Value.int .i64 a2)) (check_Parity_okG N s52 vo out hV52 a2 pr hpr) (by decide) ?_
          rintro v60 s60a e60a ⟨va, vb, rfl, ⟨vsP, hPa⟩, hvb⟩
          obtain rfl := hvb.int
          have e60 : Ext s51 (s60a.freeF (rfoot vs)) := back_ext e52 t52 hbld.rz e60a
          have z52 : s52.w.heap.size = s51.w.heap.size := by rw [e52]
          have hdis : ∀ b, foot va vsP b → ¬ foot vo vs b := fun b h1 h2 => by have q1 := (hPa.lt h1).1; have q2 := (hbld.lt h2).2; omega
          have hP : GMat (s60a.freeF (rfoot vs)) s0.w.heap.size 5 23 va vsP pr.1 := (hPa.other (fun b h1 h2 => hdis b h1 (.inr h2))).base (by rw [z52]; exact E51.size)
          have hw60 : s60a.w = (s60a.freeF (rfoot vs)).w := rfl
          rw [hw60]
          generalize s60a.freeF (rfoot vs) = s60 at *
          have E60 := E51.trans e60
          have hD60 := at_ext e60 hD51
          have gD60 : s60.g D = 0 := (e60.g D (at_lt hD51) (fun x => x)).trans gD51
          refine L_move (rfl : _ = Value.tuple #[va, Value.int .i64 pr.2]) (by decide) ?_
          refine L_extract (rfl : _ = Value.tuple #[va, Value.int .i64 pr.2]) (k := 0) rfl (by decide) ?_
          refine L_extract (rfl : _ = Value.tuple #[va, Value.int .i64 pr.2]) (k := 1) rfl (by decide) ?_
          refine L_assign (rfl : _ = va) (by decide) ?_
          refine L_assign (rfl : _ = Value.int .i64 pr.2) (by decide) ?_
          refine L_nil ?_
          refine then_n ?_
          refine WR_seq ?_
          refine WR_seq ?_
          refine WR_region rfl (by rintro f w ⟨_, h | h, _⟩ <;> cases h) ?_
          refine L_move (rfl : _ = Value.int .i64 pr.2) (by decide) ?_
          refine L_neq (rfl : _ = Value.int .i64 pr.2) (rfl : _ = Value.int .i64 0) (by decide) ?_
          refine L_nil ?_
          refine then_n ?_
          have done' : ∀ (sx : St), Ext s0 sx → sx.g D = 0 → Ext s0 (sx.putO D (.deferred none)) := fun sx e g => Tch.trans e (Tch.putO g) (fun k hk => .inr (by subst hk; exact hDlo))
          refine WR_cond _ (rfl : _ = Value.bool (!decide (pr.2 = 0))) (fun hb => ?_) (fun hb => ?_)
          · have hr := ite_t hb hr
            obtain rfl := Option.some.inj hr
            refine WR_seq ?_
            refine WR_region rfl (by rintro f w ⟨_, h | h, _⟩ <;> cases h) ?_
            refine L_move (rfl : _ = Value.int .i64 pr.2) (by decide) ?_
            refine L_assign (rfl : _ = Value.slice none 0 0) (by decide) ?_
            refine L_assign (rfl : _ = Value.int .i64 pr.2) (by decide) ?_
            refine L_nil ?_
            refine then_n ?_
            refine WR_ret ?_
            exact ⟨hD60, done2 (Or.inl rfl) Tryz.results15 rfl rfl ⟨_, s60.putO D (.deferred none), rfl, rfl, done' _ E60 gD60, _, _, rfl, ⟨[], GMat.nil⟩, Vint⟩⟩
          · have hr := ite_f hb hr
            obtain ⟨hc61, hr⟩ := chk_some hr
            obtain rfl := Option.some.inj hr
            refine WR_skip ?_
            refine then_n ?_
            refine WR_seq ?_
            refine WR_region rfl (by rintro f w ⟨_, h | h, _⟩ <;> cases h) ?_
            refine L_load_var tyRawV fb (hvar.ext e60) (by decide) ?_
            intro u hu
            obtain rfl : vo = u := hu.raw.symm
            refine L_move (rfl : _ = va) (by decide) ?_
            refine L_append (s := s60) (xs := vs) (B := s0.w.heap.size) Tryz.underlying22 tyzRaw (rfl : _ = vo) (rfl : _ = va) (hbld.outer.ext e60) E60.size hP.outer.toV (by rw [hbld.len, hP.len]; exact hc61.1) (by rw [hbld.len, hP.len]; exact hc61.2) (by decide) ?_
            intro vo' s61 g61
            have hD61 := at_tch g61.tch hD60 nD
            have gD61 : s61.g D = 0 := (g61.tch.g D (at_lt hD60) nD).trans gD60
            have E61 : Ext s0 s61 := Tch.trans E60 g61.tch (fun k hk => .inr (hbld.lt (.inl hk)).1)
            refine L_assign (rfl : _ = vo') (by decide) ?_
            refine L_assign (rfl : _ = Value.int .i64 0) (by decide) ?_
            refine L_nil ?_
            refine then_n ?_
            refine WR_ret ?_
            refine ⟨hD61, done2 (Or.inl rfl) Tryz.results15 rfl rfl ⟨_, s61.putO D (.deferred none), rfl, rfl, done' _ E61 gD61, _, _, rfl, ⟨_, ((hbld.ext e60).app hP (fun b h1 h2 => hdis b h2 h1) g61).tch (Tch.putO gD61) (fun b hb e => ?_)⟩, Vint⟩⟩
            subst e
            have hG := (hbld.ext e60).app hP (fun b h1 h2 => hdis b h2 h1) g61
            obtain ⟨cs, T, hc, _⟩ := hG.heap hb
            rw [hD61] at hc; cases hc


/-- Each byte of a block is raised by one. -/
def incJ (i : Int) : Nat → Int → List (List U8) → Option (List (List U8))
  | 0, _, _ => none
  | m + 1, j, X => Option.bind (idx X i) fun row => if decide (j < (row.length : Int)) then Option.bind (idx row j) fun y => chk (inR (j + 1)) <| incJ i m (j + 1) (X.set i.toNat (row.set j.toNat ⟨addK .u8 y.n 1⟩)) else some X
def incI (N : Nat) : Nat → Int → List (List U8) → Option (List (List U8))
  | 0, _, _ => none
  | m + 1, i, X => if decide (i < (X.length : Int)) then Option.bind (incJ i N 0 X) fun X' => chk (inR (i + 1)) <| incI N m (i + 1) X' else some X

noncomputable section
def law14_CheckBlocks (N : Nat) (a0 : List (List U8)) (a1 : List U8) (a2 : Int) (a3 : Int) : Option (Bool) :=
  Option.bind (Option.bind (law14_few N a0) fun y5 =>
  if !y5 then
  (some (true))
  else
  (some (decide (2000 < (a1.length : Int))))) fun o2 => match o2 with
  | x1 =>
  (if x1 then
  (Option.bind (law14_works N ) fun y18 =>
  some (y18))
  else
  (Option.bind (check_Parity N a0 a3) fun y25 =>
  Option.bind (ref14_Parity N a0 a3) fun y36 =>
  Option.bind (Option.bind (law14_equal N y25.1 y36.1) fun y51 =>
  if !y51 then
  (some (true))
  else
  (some (!decide (y25.2 = y36.2)))) fun o48 => match o48 with
  | x47 =>
  (if x47 then
  (some (false))
  else
  (Option.bind (check_Divide N a1 a2 a3) fun y64 =>
  Option.bind (ref14_Divide N a1 a2 a3) fun y75 =>
  Option.bind (Option.bind (law14_equal N y64.1 y75.1) fun y90 =>
  if !y90 then
  (some (true))
  else
  (some (!decide (y64.2 = y75.2)))) fun o87 => match o87 with
  | x86 =>
  (if x86 then
  (some (false))
  else
  (Option.bind (incI N N 0 y64.1) fun _ =>
  (if decide ((txtOf a1) = (txtOf a1)) then
  (Option.bind (law14_works N ) fun y104 =>
  some (y104))
  else
  (some (false)))))))))
end

theorem calD_dv : Callee Tryz.prog 15 := ⟨_, Tryz.func15, by kernel_rfl, by kernel_rfl⟩
theorem law14_CheckBlocks_ok (N : Nat) (s0 : St) (w0 : Value) (a0 : List (List U8)) (h0 : V s0 w0 a0) (w1 : Value) (a1 : List U8) (h1 : V s0 w1 a1) (a2 : Int) (a3 : Int) (r : Bool) (hr : law14_CheckBlocks N a0 a1 a2 a3 = some r) :
    Calls Tryz.prog 3 #[w0, w1, .int .i64 a2, .int .i64 a3] s0.w (Ret s0 fun v s => V s v r) := by
  unfold law14_CheckBlocks at hr
  have hE0 := Ext.refl s0
  refine Calls_of (n := 102) (args := [w0, w1, .int .i64 a2, .int .i64 a3]) Tryz.func3 rfl rfl (by simp) ?_
  refine W_seq ?_
  refine W_region ?_
  refine L_assign (rfl : _ = Value.bool (false)) (by decide) ?_
  refine L_nil ?_
  refine then_n ?_
  refine W_seq ?_
  obtain ⟨o2, ho3, hq4⟩ := bind_some hr
  refine W_seq_cut (fun f w => ∃ (s : St) (x1 : Bool), s.w = w ∧ Ext s0 s ∧ Le s0 s ∧ x1 = o2 ∧ f 23 = Value.bool x1 ∧ f 0 = w0 ∧ f 1 = w1 ∧ f 2 = Value.int .i64 (a2) ∧ f 3 = Value.int .i64 (a3)) ?_ ?_
  · have hr := ho3
    refine W_region ?_
    refine L_move (rfl : _ = w0) (by decide) ?_
    obtain ⟨y5, hy6, hr⟩ := bind_some hr
    refine L_calls cal10 (args1 (rfl : _ = w0)) (law14_few_ok N _ _ _ h0 y5 hy6) (by decide) ?_
    intro v7 s10 e8 hv9
    have hE11 := Tch.ext hE0 e8
    obtain rfl := hv9.bool
    refine L_not (rfl : _ = Value.bool (y5)) (by decide) ?_
    refine L_move (rfl : _ = Value.bool (!y5)) (by decide) ?_
    rcases Bool.eq_false_or_eq_true (!y5) with hb12 | hb12
    · have hr := ite_t hb12 hr
      refine L_gf (e := 19) (by rfl) (by decide) (rfl : _ = Value.bool (!y5)) hb12 (by decide) ?_
      refine L_gf (e := 19) (by rfl) (by decide) (rfl : _ = Value.bool (!y5)) hb12 (by decide) ?_
      refine L_gf (e := 19) (by rfl) (by decide) (rfl : _ = Value.bool (!y5)) hb12 (by decide) ?_
      refine L_pick_t (rfl : _ = Value.bool (!y5)) hb12 (rfl : _ = Value.bool (true)) (by decide) ?_
      refine L_nil ?_
      exact then_n ⟨s10, true, rfl, hE11, e8.le, Option.some.inj hr, rfl, rfl, rfl, rfl, rfl⟩
    · have hr := ite_f hb12 hr
      refine L_gt (e := 19) (by rfl) (by decide) (rfl : _ = Value.bool (!y5)) hb12 ?_
      refine L_move (rfl : _ = w1) (by decide) ?_
      refine L_gt (e := 19) (by rfl) (by decide) (rfl : _ = Value.bool (!y5)) hb12 ?_
      refine L_len Tryz.underlying23 (rfl : _ = w1) (h1.mono e8.le) (by decide) ?_
      refine L_gt (e := 19) (by rfl) (by decide) (rfl : _ = Value.bool (!y5)) hb12 ?_
      refine L_gtr (rfl : _ = Value.int .i64 ((a1.length : Int))) (rfl : _ = Value.int .i64 (2000)) (by decide) ?_
      refine L_pick_f (rfl : _ = Value.bool (!y5)) hb12 (rfl : _ = Value.bool (decide (2000 < (a1.length : Int)))) (by decide) ?_
      refine L_nil ?_
      exact then_n ⟨s10, (decide (2000 < (a1.length : Int))), rfl, hE11, e8.le, Option.some.inj hr, rfl, rfl, rfl, rfl, rfl⟩
  · rintro f115 w116 ⟨s13, x1, rfl, hE15, l14, ho3, g16_23, g16_0, g16_1, g16_2, g16_3⟩
    subst ho3
    have hr := hq4
    try dsimp only at hr
    refine W_cond _ g16_23 (fun hb17 => ?_) (fun hb17 => ?_)
    · have hr := ite_t hb17 hr
      refine W_seq ?_
      refine W_region ?_
      obtain ⟨y18, hy19, hr⟩ := bind_some hr
      refine L_calls cal11 (args0) (law14_works_ok N _  y18 hy19) (by decide) ?_
      intro v20 s23 e21 hv22
      have hE24 := Tch.ext hE15 e21
      obtain rfl := hv22.bool
      refine L_assign (rfl : _ = Value.bool (y18)) (by decide) ?_
      refine L_nil ?_
      refine then_n ?_
      refine W_ret ?_
      refine then_r ?_
      obtain rfl := Option.some.inj hr
      exact done1 (Or.inl rfl) Tryz.results3 rfl ⟨_, _, rfl, rfl, hE24, Vbool⟩
    · have hr := ite_f hb17 hr
      refine W_skip ?_
      refine then_n ?_
      refine W_seq ?_
      refine W_region ?_
      refine L_move g16_1 (by decide) ?_
      refine L_b2s Tryz.underlying23 Tryz.underlying5 Tryz.underlying9 (rfl : _ = w1) (h1.mono l14) (by decide) ?_
      refine L_assign (rfl : _ = Value.string (txtOf a1).v) (by decide) ?_
      refine L_nil ?_
      refine then_n ?_
      refine W_seq ?_
      refine W_region ?_
      refine L_move g16_0 (by decide) ?_
      refine L_move g16_3 (by decide) ?_
      obtain ⟨y25, hy26, hr⟩ := bind_some hr
      refine L_calls calD_pa (args2 (rfl : _ = w0) (rfl : _ = Value.int .i64 (a3))) (check_Parity_ok N _ _ _ (h0.mono l14) a3 y25 hy26) (by decide) ?_
      intro v27 s30 e28 hv29
      have hE31 := Tch.ext hE15 e28
      obtain ⟨v32, v33, rfl, hv34, hv35⟩ := hv29
      obtain rfl := hv35.int
      refine L_move (rfl : _ = Value.tuple #[v32, Value.int .i64 (y25.2)]) (by decide) ?_
      refine L_extract (rfl : _ = Value.tuple #[v32, Value.int .i64 (y25.2)]) (k := 0) rfl (by decide) ?_
      refine L_extract (rfl : _ = Value.tuple #[v32, Value.int .i64 (y25.2)]) (k := 1) rfl (by decide) ?_
      refine L_assign (rfl : _ = v32) (by decide) ?_
      refine L_assign (rfl : _ = Value.int .i64 (y25.2)) (by decide) ?_
      refine L_nil ?_
      refine then_n ?_
      refine W_seq ?_
      refine W_region ?_
      refine L_move g16_0 (by decide) ?_
      refine L_move g16_3 (by decide) ?_
      obtain ⟨y36, hy37, hr⟩ := bind_some hr
      refine L_calls cal13 (args2 (rfl : _ = w0) (rfl : _ = Value.int .i64 (a3))) (ref14_Parity_ok N _ _ _ (h0.mono (l14.trans e28.le)) a3 y36 hy37) (by decide) ?_
      intro v38 s41 e39 hv40
      have hE42 := Tch.ext hE31 e39
      obtain ⟨v43, v44, rfl, hv45, hv46⟩ := hv40
      obtain rfl := hv46.int
      refine L_move (rfl : _ = Value.tuple #[v43, Value.int .i64 (y36.2)]) (by decide) ?_
      refine L_extract (rfl : _ = Value.tuple #[v43, Value.int .i64 (y36.2)]) (k := 0) rfl (by decide) ?_
      refine L_extract (rfl : _ = Value.tuple #[v43, Value.int .i64 (y36.2)]) (k := 1) rfl (by decide) ?_
      refine L_assign (rfl : _ = v43) (by decide) ?_
      refine L_assign (rfl : _ = Value.int .i64 (y36.2)) (by decide) ?_
      refine L_nil ?_
      refine then_n ?_
      refine W_seq ?_
      obtain ⟨o48, ho49, hq50⟩ := bind_some hr
      refine W_seq_cut (fun f w => ∃ (s : St) (x47 : Bool), s.w = w ∧ Ext s0 s ∧ Le s41 s ∧ x47 = o48 ∧ f 47 = Value.bool x47 ∧ f 1 = w1 ∧ f 2 = Value.int .i64 (a2) ∧ f 3 = Value.int .i64 (a3) ∧ f 9 = Value.string (txtOf a1).v) ?_ ?_
      · have hr := ho49
        refine W_region ?_
        refine L_move (rfl : _ = v32) (by decide) ?_
        refine L_move (rfl : _ = v43) (by decide) ?_
        obtain ⟨y51, hy52, hr⟩ := bind_some hr
        refine L_calls cal14 (args2 (rfl : _ = v32) (rfl : _ = v43)) (law14_equal_ok N _ _ _ (hv34.mono e39.le) _ _ hv45 y51 hy52) (by decide) ?_
        intro v53 s56 e54 hv55
        have hE57 := Tch.ext hE42 e54
        obtain rfl := hv55.bool
        refine L_not (rfl : _ = Value.bool (y51)) (by decide) ?_
        refine L_move (rfl : _ = Value.bool (!y51)) (by decide) ?_
        rcases Bool.eq_false_or_eq_true (!y51) with hb58 | hb58
        · have hr := ite_t hb58 hr
          refine L_gf (e := 43) (by rfl) (by decide) (rfl : _ = Value.bool (!y51)) hb58 (by decide) ?_
          refine L_gf (e := 43) (by rfl) (by decide) (rfl : _ = Value.bool (!y51)) hb58 (by decide) ?_
          refine L_gf (e := 43) (by rfl) (by decide) (rfl : _ = Value.bool (!y51)) hb58 (by decide) ?_
          refine L_pick_t (rfl : _ = Value.bool (!y51)) hb58 (rfl : _ = Value.bool (true)) (by decide) ?_
          refine L_nil ?_
          exact then_n ⟨s56, true, rfl, hE57, e54.le, Option.some.inj hr, rfl, g16_1, g16_2, g16_3, rfl⟩
        · have hr := ite_f hb58 hr
          refine L_gt (e := 43) (by rfl) (by decide) (rfl : _ = Value.bool (!y51)) hb58 ?_
          refine L_move (rfl : _ = Value.int .i64 (y25.2)) (by decide) ?_
          refine L_gt (e := 43) (by rfl) (by decide) (rfl : _ = Value.bool (!y51)) hb58 ?_
          refine L_move (rfl : _ = Value.int .i64 (y36.2)) (by decide) ?_
          refine L_gt (e := 43) (by rfl) (by decide) (rfl : _ = Value.bool (!y51)) hb58 ?_
          refine L_neq (rfl : _ = Value.int .i64 (y25.2)) (rfl : _ = Value.int .i64 (y36.2)) (by decide) ?_
          refine L_pick_f (rfl : _ = Value.bool (!y51)) hb58 (rfl : _ = Value.bool (!decide (y25.2 = y36.2))) (by decide) ?_
          refine L_nil ?_
          exact then_n ⟨s56, (!decide (y25.2 = y36.2)), rfl, hE57, e54.le, Option.some.inj hr, rfl, g16_1, g16_2, g16_3, rfl⟩
      · rintro f113 w114 ⟨s59, x47, rfl, hE61, l60, ho49, g62_47, g62_1, g62_2, g62_3, g62_9⟩
        subst ho49
        have hr := hq50
        try dsimp only at hr
        refine W_cond _ g62_47 (fun hb63 => ?_) (fun hb63 => ?_)
        · have hr := ite_t hb63 hr
          refine W_seq ?_
          refine W_region ?_
          refine L_assign (rfl : _ = Value.bool (false)) (by decide) ?_
          refine L_nil ?_
          refine then_n ?_
          refine W_ret ?_
          refine then_r ?_
          obtain rfl := Option.some.inj hr
          exact done1 (Or.inl rfl) Tryz.results3 rfl ⟨_, _, rfl, rfl, hE61, Vbool⟩
        · have hr := ite_f hb63 hr
          refine W_skip ?_
          refine then_n ?_
          refine W_seq ?_
          refine W_region ?_
          refine L_move g62_1 (by decide) ?_
          refine L_move g62_2 (by decide) ?_
          refine L_move g62_3 (by decide) ?_
          obtain ⟨y64, hy65, hr⟩ := bind_some hr
          refine L_calls calD_dv (args3 (rfl : _ = w1) (rfl : _ = Value.int .i64 (a2)) (rfl : _ = Value.int .i64 (a3))) (check_Divide_okG N _ _ _ (h1.mono (l14.trans (e28.le.trans (e39.le.trans l60)))) a2 a3 y64 hy65) (by decide) ?_
          intro v66 s69 e67 hv68
          obtain ⟨v71, v72, rfl, ⟨vsX, hX⟩, hv74⟩ := hv68
          obtain ⟨sF, eF, tF, hv73⟩ := hX.freezeR
          have e67 : Ext s59 sF := Tch.trans e67 tF (fun k hk => .inr (hX.lt (.inr hk)).1)
          rw [← eF]
          have hE70 := Tch.ext hE61 e67
          obtain rfl := hv74.int
          refine L_move (rfl : _ = Value.tuple #[v71, Value.int .i64 (y64.2)]) (by decide) ?_
          refine L_extract (rfl : _ = Value.tuple #[v71, Value.int .i64 (y64.2)]) (k := 0) rfl (by decide) ?_
          refine L_extract (rfl : _ = Value.tuple #[v71, Value.int .i64 (y64.2)]) (k := 1) rfl (by decide) ?_
          refine L_assign (rfl : _ = v71) (by decide) ?_
          refine L_assign (rfl : _ = Value.int .i64 (y64.2)) (by decide) ?_
          refine L_nil ?_
          refine then_n ?_
          refine W_seq ?_
          refine W_region ?_
          refine L_move g62_1 (by decide) ?_
          refine L_move g62_2 (by decide) ?_
          refine L_move g62_3 (by decide) ?_
          obtain ⟨y75, hy76, hr⟩ := bind_some hr
          refine L_calls cal16 (args3 (rfl : _ = w1) (rfl : _ = Value.int .i64 (a2)) (rfl : _ = Value.int .i64 (a3))) (ref14_Divide_ok N _ _ _ (h1.mono (l14.trans (e28.le.trans (e39.le.trans (l60.trans e67.le))))) a2 a3 y75 hy76) (by decide) ?_
          intro v77 s80 e78 hv79
          have hE81 := Tch.ext hE70 e78
          obtain ⟨v82, v83, rfl, hv84, hv85⟩ := hv79
          obtain rfl := hv85.int
          refine L_move (rfl : _ = Value.tuple #[v82, Value.int .i64 (y75.2)]) (by decide) ?_
          refine L_extract (rfl : _ = Value.tuple #[v82, Value.int .i64 (y75.2)]) (k := 0) rfl (by decide) ?_
          refine L_extract (rfl : _ = Value.tuple #[v82, Value.int .i64 (y75.2)]) (k := 1) rfl (by decide) ?_
          refine L_assign (rfl : _ = v82) (by decide) ?_
          refine L_assign (rfl : _ = Value.int .i64 (y75.2)) (by decide) ?_
          refine L_nil ?_
          refine then_n ?_
          refine W_seq ?_
          obtain ⟨o87, ho88, hq89⟩ := bind_some hr
          refine W_seq_cut (fun f w => ∃ (s : St) (x86 : Bool), s.w = w ∧ Ext s0 s ∧ Ext s80 s ∧ x86 = o87 ∧ f 70 = Value.bool x86 ∧ f 1 = w1 ∧ f 9 = Value.string (txtOf a1).v ∧ f 10 = v71) ?_ ?_
          · have hr := ho88
            refine W_region ?_
            refine L_move (rfl : _ = v71) (by decide) ?_
            refine L_move (rfl : _ = v82) (by decide) ?_
            obtain ⟨y90, hy91, hr⟩ := bind_some hr
            refine L_calls cal14 (args2 (rfl : _ = v71) (rfl : _ = v82)) (law14_equal_ok N _ _ _ (hv73.mono e78.le) _ _ hv84 y90 hy91) (by decide) ?_
            intro v92 s95 e93 hv94
            have hE96 := Tch.ext hE81 e93
            obtain rfl := hv94.bool
            refine L_not (rfl : _ = Value.bool (y90)) (by decide) ?_
            refine L_move (rfl : _ = Value.bool (!y90)) (by decide) ?_
            rcases Bool.eq_false_or_eq_true (!y90) with hb97 | hb97
            · have hr := ite_t hb97 hr
              refine L_gf (e := 66) (by rfl) (by decide) (rfl : _ = Value.bool (!y90)) hb97 (by decide) ?_
              refine L_gf (e := 66) (by rfl) (by decide) (rfl : _ = Value.bool (!y90)) hb97 (by decide) ?_
              refine L_gf (e := 66) (by rfl) (by decide) (rfl : _ = Value.bool (!y90)) hb97 (by decide) ?_
              refine L_pick_t (rfl : _ = Value.bool (!y90)) hb97 (rfl : _ = Value.bool (true)) (by decide) ?_
              refine L_nil ?_
              exact then_n ⟨s95, true, rfl, hE96, e93, Option.some.inj hr, rfl, g62_1, g62_9, rfl⟩
            · have hr := ite_f hb97 hr
              refine L_gt (e := 66) (by rfl) (by decide) (rfl : _ = Value.bool (!y90)) hb97 ?_
              refine L_move (rfl : _ = Value.int .i64 (y64.2)) (by decide) ?_
              refine L_gt (e := 66) (by rfl) (by decide) (rfl : _ = Value.bool (!y90)) hb97 ?_
              refine L_move (rfl : _ = Value.int .i64 (y75.2)) (by decide) ?_
              refine L_gt (e := 66) (by rfl) (by decide) (rfl : _ = Value.bool (!y90)) hb97 ?_
              refine L_neq (rfl : _ = Value.int .i64 (y64.2)) (rfl : _ = Value.int .i64 (y75.2)) (by decide) ?_
              refine L_pick_f (rfl : _ = Value.bool (!y90)) hb97 (rfl : _ = Value.bool (!decide (y64.2 = y75.2))) (by decide) ?_
              refine L_nil ?_
              exact then_n ⟨s95, (!decide (y64.2 = y75.2)), rfl, hE96, e93, Option.some.inj hr, rfl, g62_1, g62_9, rfl⟩
          · rintro f111 w112 ⟨s98, x86, rfl, hE100, l99, ho88, g101_70, g101_1, g101_9, g101_10⟩
            subst ho88
            have hr := hq89
            try dsimp only at hr
            refine W_cond _ g101_70 (fun hb102 => ?_) (fun hb102 => ?_)
            · have hr := ite_t hb102 hr
              refine W_seq ?_
              refine W_region ?_
              refine L_assign (rfl : _ = Value.bool (false)) (by decide) ?_
              refine L_nil ?_
              refine then_n ?_
              refine W_ret ?_
              refine then_r ?_
              obtain rfl := Option.some.inj hr
              exact done1 (Or.inl rfl) Tryz.results3 rfl ⟨_, _, rfl, rfl, hE100, Vbool⟩
            · have hr := ite_f hb102 hr
              refine W_skip ?_
              refine then_n ?_
              refine W_seq ?_
              refine W_seq ?_
              refine W_region ?_
              refine L_assign (rfl : _ = Value.int .i64 0) (by decide) ?_
              refine L_nil ?_
              refine then_n ?_
              obtain ⟨XE, hXE, hr⟩ := bind_some hr
              have EB := back_ext eF tF hX.rz (e78.trans l99)
              have hG := hX.ext EB
              have hM0 := hG.toMat
              have E1 : Ext s0 (s98.freeF (rfoot vsX)) := freeF_ext hE100 (fun b hb => Nat.le_trans hE61.size (hX.lt (.inr hb)).1)
              have E2 : Ext s0 ((s98.freeF (rfoot vsX)).freeF (own v71)) := freeF_ext E1 (fun b hb => Nat.le_trans hE61.size (hX.lt (.inl hb)).1)
              refine W_cut (fun f w => ∃ (s : St), s.w = w ∧ Ext s0 s ∧ f 1 = w1 ∧ f 9 = Value.string (txtOf a1).v) ?_ ?_
              · refine W_block ?_
                refine W_loop (fun m f w => ∃ (s : St) (i : Int) (X : List (List U8)), s.w = w ∧ Ext s0 s ∧ Mat s s59.w.heap.size 5 23 v71 vsX X ∧ incI N m i X = some XE ∧ f 14 = Value.int .i64 i ∧ f 10 = v71 ∧ f 1 = w1 ∧ f 9 = Value.string (txtOf a1).v) N ⟨(s98.freeF (rfoot vsX)).freeF (own v71), 0, _, rfl, E2, hM0, hXE, rfl, g101_10, g101_1, g101_9⟩ ?_
                rintro m f w ⟨s, i, X, rfl, hE, hM, hq, q14, q10, q1, q9⟩
                cases m with
                | zero => cases hq
                | succ m =>
                  rw [incI] at hq
                  refine W_seq ?_
                  refine W_seq ?_
                  refine W_region ?_
                  refine L_move q14 (by decide) ?_
                  refine L_move q10 (by decide) ?_
                  refine L_lenS Tryz.underlying22 (rfl : _ = v71) hM.outer (by decide) ?_
                  rw [hM.len]
                  refine L_lss (rfl : _ = Value.int .i64 i) (rfl : _ = Value.int .i64 (X.length : Int)) (by decide) ?_
                  refine L_nil ?_
                  refine then_n ?_
                  refine W_cond _ (rfl : _ = Value.bool (decide (i < (X.length : Int)))) (fun hb => ?_) (fun hb => ?_)
                  · have hq := ite_t hb hq
                    obtain ⟨X', hX', hq⟩ := bind_some hq
                    obtain ⟨hc, hq⟩ := chk_some hq
                    refine W_skip ?_
                    refine then_n ?_
                    refine W_seq ?_
                    refine W_block ?_
                    refine W_seq ?_
                    refine W_region ?_
                    refine L_assign (rfl : _ = Value.int .i64 0) (by decide) ?_
                    refine L_nil ?_
                    refine then_n ?_
                    refine W_cut (fun f w => ∃ (s : St), s.w = w ∧ Ext s0 s ∧ Mat s s59.w.heap.size 5 23 v71 vsX X' ∧ f 14 = Value.int .i64 i ∧ f 10 = v71 ∧ f 1 = w1 ∧ f 9 = Value.string (txtOf a1).v) ?_ ?_
                    · refine W_block ?_
                      refine W_loop (fun m f w => ∃ (s : St) (j : Int) (Y : List (List U8)), s.w = w ∧ Ext s0 s ∧ Mat s s59.w.heap.size 5 23 v71 vsX Y ∧ incJ i m j Y = some X' ∧ f 15 = Value.int .i64 j ∧ f 14 = Value.int .i64 i ∧ f 10 = v71 ∧ f 1 = w1 ∧ f 9 = Value.string (txtOf a1).v) N ⟨s, 0, X, rfl, hE, hM, hX', rfl, q14, q10, q1, q9⟩ ?_
                      clear hM hE q14 q10 q1 q9
                      rintro m f w ⟨s, j, Y, rfl, hE, hM, hp, q15, q14, q10, q1, q9⟩
                      cases m with
                      | zero => cases hp
                      | succ m =>
                        rw [incJ] at hp
                        obtain ⟨row, hrow, hp⟩ := bind_some hp
                        obtain ⟨x, hx1, hx2, hx3, hA⟩ := hM.idx_ hrow
                        refine W_seq ?_
                        refine W_seq ?_
                        refine W_region ?_
                        refine L_move q15 (by decide) ?_
                        refine L_move q10 (by decide) ?_
                        refine L_move q14 (by decide) ?_
                        refine L_indexS Tryz.underlying22 tyRaw.inf (rfl : _ = v71) (rfl : _ = Value.int .i64 i) hM.outer hx1 (by decide) ?_
                        refine L_loadS tyRaw (rfl : _ = elemP v71 i 1 0) hM.outer hx1 rfl (by decide) ?_
                        intro u hu
                        obtain rfl : u = x.v := hu.raw
                        refine L_lenS Tryz.underlying23 (rfl : _ = x.v) hA (by decide) ?_
                        refine L_lss (rfl : _ = Value.int .i64 j) (rfl : _ = Value.int .i64 (row.length : Int)) (by decide) ?_
                        refine L_nil ?_
                        refine then_n ?_
                        refine W_cond _ (rfl : _ = Value.bool (decide (j < (row.length : Int)))) (fun hb => ?_) (fun hb => ?_)
                        · have hp := ite_t hb hp
                          obtain ⟨y, hy, hp⟩ := bind_some hp
                          obtain ⟨hc2, hp⟩ := chk_some hp
                          refine W_skip ?_
                          refine then_n ?_
                          refine W_seq ?_
                          refine W_block ?_
                          refine W_region ?_
                          refine L_move q10 (by decide) ?_
                          refine L_move q14 (by decide) ?_
                          refine L_indexS Tryz.underlying22 tyRaw.inf (rfl : _ = v71) (rfl : _ = Value.int .i64 i) hM.outer hx1 (by decide) ?_
                          refine L_loadS tyRaw (rfl : _ = elemP v71 i 1 0) hM.outer hx1 rfl (by decide) ?_
                          intro u2 hu2
                          obtain rfl : u2 = x.v := hu2.raw
                          refine L_move q15 (by decide) ?_
                          refine L_indexS Tryz.underlying23 ty5.inf (rfl : _ = x.v) (rfl : _ = Value.int .i64 j) hA hy (by decide) ?_
                          refine L_loadS ty5 (rfl : _ = elemP x.v j 1 0) hA hy rfl (by decide) ?_
                          intro u3 hu3
                          obtain rfl := hu3.u8
                          refine L_addK (rfl : _ = Value.int .u8 y.n) (rfl : _ = Value.int .u8 1) (by decide) ?_
                          refine L_indexS Tryz.underlying23 ty5.inf (rfl : _ = x.v) (rfl : _ = Value.int .i64 j) hA hy (by decide) ?_
                          refine L_storeS ty5 (rfl : _ = elemP x.v j 1 0) (rfl : _ = Value.int .u8 ((⟨addK .u8 y.n 1⟩ : U8)).n) Vu8 hA hy rfl ?_
                          intro s3 t3 hA3
                          have hE3 : Ext s0 s3 := Tch.trans hE t3 (fun k hk => .inr (Nat.le_trans hE61.size (hA.lt hk).1))
                          have hM3 := hM.setRow hx2 t3 hA3
                          refine L_nil ?_
                          refine block_n ?_
                          refine then_n ?_
                          refine W_region ?_
                          refine L_move q15 (by decide) ?_
                          refine L_add (rfl : _ = Value.int .i64 j) (rfl : _ = Value.int .i64 1) hc2 (by decide) ?_
                          refine L_assign (rfl : _ = Value.int .i64 (j + 1)) (by decide) ?_
                          refine L_nil ?_
                          exact then_n ⟨m, Nat.lt_succ_self m, s3, j + 1, _, rfl, hE3, hM3, hp, rfl, q14, q10, q1, q9⟩
                        · have hp := ite_f hb hp
                          obtain rfl := Option.some.inj hp
                          refine W_exit ?_
                          refine then_x ?_
                          refine then_x ?_
                          refine block_here ?_
                          exact then_n ⟨s, rfl, hE, hM, q14, q10, q1, q9⟩
                    · rintro f w ⟨s4, rfl, hE4, hM4, q14, q10, q1, q9⟩
                      refine block_n ?_
                      refine then_n ?_
                      refine W_region ?_
                      refine L_move q14 (by decide) ?_
                      refine L_add (rfl : _ = Value.int .i64 i) (rfl : _ = Value.int .i64 1) hc (by decide) ?_
                      refine L_assign (rfl : _ = Value.int .i64 (i + 1)) (by decide) ?_
                      refine L_nil ?_
                      exact then_n ⟨m, Nat.lt_succ_self m, s4, i + 1, X', rfl, hE4, hM4, hq, rfl, q10, q1, q9⟩
                  · have hq := ite_f hb hq
                    refine W_exit ?_
                    refine then_x ?_
                    refine then_x ?_
                    refine block_here ?_
                    exact then_n ⟨s, rfl, hE, q1, q9⟩
              rintro f w ⟨sL, rfl, hEL, q1, q9⟩
              refine then_n ?_
              refine W_seq ?_
              refine W_region ?_
              refine L_move q1 (by decide) ?_
              refine L_b2s Tryz.underlying23 Tryz.underlying5 Tryz.underlying9 (rfl : _ = w1) (h1.mono hEL.le) (by decide) ?_
              refine L_move q9 (by decide) ?_
              refine L_seql (rfl : _ = Value.string (txtOf a1).v) (rfl : _ = Value.string (txtOf a1).v) (by decide) ?_
              refine L_move (rfl : _ = Value.bool (decide ((txtOf a1) = (txtOf a1)))) (by decide) ?_
              rcases Bool.eq_false_or_eq_true (decide ((txtOf a1) = (txtOf a1))) with hb103 | hb103
              · have hr := ite_t hb103 hr
                refine L_gt (e := 99) (by rfl) (by decide) (rfl : _ = Value.bool (decide ((txtOf a1) = (txtOf a1)))) hb103 ?_
                obtain ⟨y104, hy105, hr⟩ := bind_some hr
                refine L_calls cal11 (args0) (law14_works_ok N _  y104 hy105) (by decide) ?_
                intro v106 s109 e107 hv108
                have hE110 := Tch.ext hEL e107
                obtain rfl := hv108.bool
                refine L_pick_t (rfl : _ = Value.bool (decide ((txtOf a1) = (txtOf a1)))) hb103 (rfl : _ = Value.bool (y104)) (by decide) ?_
                refine L_assign (rfl : _ = Value.bool (y104)) (by decide) ?_
                refine L_nil ?_
                refine then_n ?_
                refine W_ret ?_
                obtain rfl := Option.some.inj hr
                exact done1 (Or.inl rfl) Tryz.results3 rfl ⟨_, _, rfl, rfl, hE110, Vbool⟩
              · have hr := ite_f hb103 hr
                refine L_gf (e := 99) (by rfl) (by decide) (rfl : _ = Value.bool (decide ((txtOf a1) = (txtOf a1)))) hb103 (by decide) ?_
                refine L_pick_f (rfl : _ = Value.bool (decide ((txtOf a1) = (txtOf a1)))) hb103 (rfl : _ = Value.bool (false)) (by decide) ?_
                refine L_assign (rfl : _ = Value.bool (false)) (by decide) ?_
                refine L_nil ?_
                refine then_n ?_
                refine W_ret ?_
                obtain rfl := Option.some.inj hr
                exact done1 (Or.inl rfl) Tryz.results3 rfl ⟨_, _, rfl, rfl, hEL, Vbool⟩

end Go.Arm
