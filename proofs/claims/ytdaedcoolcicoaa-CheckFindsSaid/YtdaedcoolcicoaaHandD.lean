/- A part of the proof. -/
import Derived.Test.YtdaedcoolcicoaaPure2
import Derived.Test.YtdaedcoolcicoaaCoreU
namespace Go.Arm
open Go Go.RowKit Go.Proofs
noncomputable section

theorem calD_it : Callee Try.prog 88 := ⟨_, Try.func88, by kernel_rfl, by kernel_rfl⟩
theorem calD_ch : Callee Try.prog 62 := ⟨_, Try.func62, by kernel_rfl, by kernel_rfl⟩
theorem calD_pa : Callee Try.prog 31 := ⟨_, Try.func31, by kernel_rfl, by kernel_rfl⟩
theorem calD_cl : Callee Try.prog 44 := ⟨_, Try.func44, by kernel_rfl, by kernel_rfl⟩
theorem tyN3 : Ty Try.prog 3 Int := ⟨by kernel_rfl, by kernel_rfl⟩
theorem tyB3 : Ty Try.prog 22 (List U8) := ⟨by kernel_rfl, by kernel_rfl⟩
theorem tyRawV : Ty Try.prog 24 RawV := ⟨by kernel_rfl, by kernel_rfl⟩
theorem tyzB3 : TyZ Try.prog 22 (List U8) 24 (.slice none 0 0) := ⟨tyB3, by kernel_rfl, by kernel_rfl, by show 0 < 1; decide⟩
theorem mixedD : Try.prog.follows .mixedOrders = true := by kernel_rfl

/-- slices.Chunk: the iterator's value. -/
theorem chunk_ok (s0 : St) (w0 : Value) (xs : List U8) (h0 : V s0 w0 xs) (k : Int) (hk : 1 ≤ k) :
    Calls Try.prog 62 #[w0, .int .i64 k] s0.w (Ret s0 fun v s => ∃ a b, v = .func (.func 88) #[] #[a, b] ∧ Ptr s a xs ∧ Ptr s b k) := by
  refine Calls_of (n := 9) (args := [w0, .int .i64 k]) Try.func62 rfl rfl (by simp) ?_
  refine W_seq ?_
  refine W_region ?_
  refine L_box (rfl : _ = w0) h0 (by decide) ?_
  intro s1 a e1 ha
  refine L_box (s := s1) (y := k) (rfl : _ = Value.int .i64 k) Vint (by decide) ?_
  intro s2 b e2 hb
  have ha2 := ha.mono e2.le
  refine L_assign (rfl : _ = Value.nilFunc) (by decide) ?_
  refine L_nil ?_
  refine then_n ?_
  refine W_seq ?_
  refine W_seq ?_
  refine W_region ?_
  refine L_load tyN3 (rfl : _ = b) hb (by decide) ?_
  intro v hv
  obtain rfl := hv.int
  refine L_lss (rfl : _ = Value.int .i64 k) (rfl : _ = Value.int .i64 1) (by decide) ?_
  refine L_nil ?_
  refine then_n ?_
  refine W_cond _ (rfl : _ = Value.bool (decide (k < 1))) (fun hb => ?_) (fun _ => ?_)
  · exact absurd (of_decide_eq_true hb) (by omega)
  refine W_skip ?_
  refine then_n ?_
  refine W_seq ?_
  refine W_region ?_
  refine L_makeFunc (args2 (rfl : _ = a) (rfl : _ = b)) (by decide) ?_
  refine L_assign (rfl : _ = Value.func (.func 88) #[] #[a, b]) (by decide) ?_
  refine L_nil ?_
  refine then_n ?_
  refine W_ret ?_
  exact done1 (Or.inl rfl) Try.results62 rfl ⟨_, _, rfl, rfl, e1.trans e2, a, b, rfl, ha2, hb⟩

/-- The pieces, cloned, one after the other. -/
def chunkG (N : Nat) (xs : List U8) (k : Int) : Nat → Int → List (List U8) → Option (List (List U8))
  | 0, _, _ => none
  | m + 1, i, pre => if decide (i < (xs.length : Int)) then
    Option.bind (cut xs i (xs.length : Int)) fun rest => chk (inR (i + min k (rest.length : Int))) <|
    Option.bind (cut xs i (i + min k (rest.length : Int))) fun x => Option.bind (slices_Clone_Lbyte_byte N x) fun y =>
    chk ((pre.length + ([y] : List (List U8)).length) * 24 ≤ 140737488355328 ∧ pre.length + ([y] : List (List U8)).length ≤ maxLen) <|
    chk (inR (i + k)) <| chunkG N xs k m (i + k) (pre ++ [y])
    else some pre

/-- The iterator, from what each round does. -/
theorem iter_ok (N : Nat) (sA : St) (l : Nat) (r : Loop) (J : List (List U8) → St → Prop) (p q : Value) (xs : List U8) (k : Int) (hp : Ptr sA p xs) (hq : Ptr sA q k) (h1 : r.params.size = 1)
    (hJ0 : J [] sA) (hJl : ∀ pre s, J pre s → s.w.heap[l]? = some (.loop r)) (hJe : ∀ pre s s', J pre s → Ext s s' → J pre s')
    (hround : ∀ pre s v x y, J pre s → Le sA s → V s v x → slices_Clone_Lbyte_byte N x = some y → ((pre.length + ([y] : List (List U8)).length) * 24 ≤ 140737488355328 ∧ pre.length + ([y] : List (List U8)).length ≤ maxLen) →
      RoundIn (fenceAt none) 0 Try.prog l r.fn ((r.params.zip #[v]).foldl (fun tmps (t, a) => tmps.setIfInBounds t a) r.tmps) r.assign r.body s.w fun e w' => e = .returned (.bool true) ∧ ∃ s', s'.w = w' ∧ Le s s' ∧ J (pre ++ [y]) s')
    (out : List (List U8)) (ho : chunkG N xs k N 0 [] = some out) :
    Calls Try.prog 88 #[.func (.yield l) #[] #[], p, q] sA.w fun e w' => ∃ s', e = .returned (.tuple #[]) ∧ s'.w = w' ∧ Le sA s' ∧ J out s' := by
  refine Calls_of (n := 31) (args := [.func (.yield l) #[] #[], p, q]) Try.func88 rfl rfl (by simp) ?_
  refine W_seq ?_
  refine W_region ?_
  refine L_assign (rfl : _ = Value.int .i64 0) (by decide) ?_
  refine L_nil ?_
  refine then_n ?_
  refine W_block ?_
  refine W_loop (fun m f w => ∃ (s : St) (i : Int) (pre : List (List U8)), s.w = w ∧ Le sA s ∧ J pre s ∧ chunkG N xs k m i pre = some out ∧ f 0 = .func (.yield l) #[] #[] ∧ f 1 = p ∧ f 2 = q ∧ f 4 = .int .i64 i) N ⟨sA, 0, [], rfl, Le.refl _, hJ0, ho, rfl, rfl, rfl, rfl⟩ ?_
  rintro m f w ⟨s, i, pre, rfl, hL, hJ, hr, g0, g1, g2, g4⟩
  cases m with
  | zero => cases hr
  | succ m =>
    rw [chunkG] at hr
    refine W_seq ?_
    refine W_seq ?_
    refine W_region ?_
    refine L_move g4 (by decide) ?_
    refine L_load tyB3 g1 (hp.mono hL) (by decide) ?_
    intro v1 hv1
    refine L_len Try.underlying22 (rfl : _ = v1) hv1 (by decide) ?_
    refine L_lss (rfl : _ = Value.int .i64 i) (rfl : _ = Value.int .i64 (xs.length : Int)) (by decide) ?_
    refine L_nil ?_
    refine then_n ?_
    refine W_cond _ (rfl : _ = Value.bool (decide (i < (xs.length : Int)))) (fun hb => ?_) (fun hb => ?_)
    · have hr := ite_t hb hr
      obtain ⟨rest, hrest, hr⟩ := bind_some hr
      obtain ⟨c1, hr⟩ := chk_some hr
      obtain ⟨x, hx, hr⟩ := bind_some hr
      obtain ⟨y, hy, hr⟩ := bind_some hr
      obtain ⟨c2, hr⟩ := chk_some hr
      obtain ⟨c3, hr⟩ := chk_some hr
      refine W_skip ?_
      refine then_n ?_
      refine W_seq ?_
      refine W_block ?_
      refine W_seq_cut (fun f' w' => w' = s.drew.w ∧ f' 0 = .func (.yield l) #[] #[] ∧ f' 1 = p ∧ f' 2 = q ∧ f' 4 = .int .i64 i ∧ f' 5 = .int .i64 (min k (rest.length : Int))) ?_ ?_
      · have eD := Ext.drew s
        refine W_seqd2 (s := s) 0 4 [0, 1, 2, 3, 4, 5, 6] [1, 2, 3, 4, 0, 5, 6] mixedD (by kernel_rfl) rfl rfl ?_ ?_
        · refine L_load tyN3 g2 ((hq.mono hL).mono eD.le) (by decide) ?_
          intro v2 hv2
          obtain rfl := hv2.int
          refine L_load tyB3 g1 ((hp.mono hL).mono eD.le) (by decide) ?_
          intro v3 hv3
          refine L_move g4 (by decide) ?_
          refine L_slice_l Try.underlying22 (by kernel_rfl) (rfl : _ = v3) hv3 (rfl : _ = Value.int .i64 i) hrest (by decide) ?_
          intro v4 hv4
          refine L_len Try.underlying22 (rfl : _ = v4) hv4 (by decide) ?_
          refine L_min (rfl : _ = Value.int .i64 k) (rfl : _ = Value.int .i64 (rest.length : Int)) (by decide) ?_
          refine L_assign (rfl : _ = Value.int .i64 (min k (rest.length : Int))) (by decide) ?_
          exact L_nil ⟨rfl, then_n ⟨rfl, g0, g1, g2, g4, rfl⟩⟩
        · refine L_load tyB3 g1 ((hp.mono hL).mono eD.le) (by decide) ?_
          intro v3 hv3
          refine L_move g4 (by decide) ?_
          refine L_slice_l Try.underlying22 (by kernel_rfl) (rfl : _ = v3) hv3 (rfl : _ = Value.int .i64 i) hrest (by decide) ?_
          intro v4 hv4
          refine L_len Try.underlying22 (rfl : _ = v4) hv4 (by decide) ?_
          refine L_load tyN3 g2 ((hq.mono hL).mono eD.le) (by decide) ?_
          intro v2 hv2
          obtain rfl := hv2.int
          refine L_min (rfl : _ = Value.int .i64 k) (rfl : _ = Value.int .i64 (rest.length : Int)) (by decide) ?_
          refine L_assign (rfl : _ = Value.int .i64 (min k (rest.length : Int))) (by decide) ?_
          exact L_nil ⟨rfl, then_n ⟨rfl, g0, g1, g2, g4, rfl⟩⟩
      rintro f' w' ⟨rfl, g0, g1, g2, g4, g5⟩
      have eD := Ext.drew s
      have hJ := hJe _ _ _ hJ eD
      have hL := hL.trans eD.le
      generalize s.drew = s at *
      refine W_seq ?_
      refine W_region_round (pre := [_, _, _, _, _, _, _, _, _, _]) (post := [_]) rfl rfl rfl rfl (by intro k e; cases e; decide) ?_ ?_
      · rintro f w ⟨h | h, _⟩ <;> cases h
      refine L_move g0 (by decide) ?_
      refine L_load tyB3 g1 (hp.mono hL) (by decide) ?_
      intro v5 hv5
      refine L_move g4 (by decide) ?_
      refine L_move g4 (by decide) ?_
      refine L_move g5 (by decide) ?_
      refine L_add (rfl : _ = Value.int .i64 i) (rfl : _ = Value.int .i64 (min k (rest.length : Int))) c1 (by decide) ?_
      refine L_move g4 (by decide) ?_
      refine L_move g5 (by decide) ?_
      refine L_add (rfl : _ = Value.int .i64 i) (rfl : _ = Value.int .i64 (min k (rest.length : Int))) c1 (by decide) ?_
      refine L_slice_lhm Try.underlying22 (by kernel_rfl) (rfl : _ = v5) hv5 (rfl : _ = Value.int .i64 i) (rfl : _ = Value.int .i64 (i + min k (rest.length : Int))) (rfl : _ = Value.int .i64 (i + min k (rest.length : Int))) hx (by decide) ?_
      intro v6 hv6
      refine L_nil (Or.inr ⟨rfl, l, _, _, _, _, run_callYield (rfl : _ = Value.func (.yield l) #[] #[]) (rfl : _ = v6) (hJl _ _ hJ) h1, RoundIn.mono (hround pre s v6 x y hJ hL hv6 hy c2) ?_⟩)
      rintro e w' ⟨rfl, s', rfl, hL', hJ'⟩
      refine ⟨_, rfl, ?_⟩
      refine L_not (rfl : _ = Value.bool true) (by decide) ?_
      refine L_nil ?_
      refine then_n ?_
      refine W_cond _ (rfl : _ = Value.bool (!true)) (fun hb => by cases hb) (fun _ => ?_)
      refine W_skip ?_
      refine W_region ?_
      refine L_move g4 (by decide) ?_
      refine L_load tyN3 g2 ((hq.mono hL).mono hL') (by decide) ?_
      intro v7 hv7
      obtain rfl := hv7.int
      refine L_add (rfl : _ = Value.int .i64 i) (rfl : _ = Value.int .i64 k) c3 (by decide) ?_
      refine L_assign (rfl : _ = Value.int .i64 (i + k)) (by decide) ?_
      refine L_nil ?_
      exact then_n ⟨m, Nat.lt_succ_self m, s', i + k, pre ++ [y], rfl, hL.trans hL', hJ', hr, g0, g1, g2, rfl⟩
    · have hr := ite_f hb hr
      cases hr
      refine W_exit ?_
      exact done0 (R := fun e w' => ∃ s' : St, e = .returned (.tuple #[]) ∧ s'.w = w' ∧ Le sA s' ∧ J _ s') (Or.inr rfl) Try.results88 ⟨s, rfl, rfl, hL, hJ⟩

def check_Divide (N : Nat) (a0 : List U8) (a1 : Int) (a2 : Int) : Option ((List (List U8)) × Int) :=
  Option.bind (if decide (a1 < 1) then
  (some (true))
  else
  (if decide (16 < a1) then
  (some (true))
  else
  (if decide (a2 < 0) then
  (some (true))
  else
  (some (decide (16 < a2)))))) fun o2 => match o2 with
  | x1 =>
  (if x1 then
  (some ((([] : List (List U8)), (3 : Int))))
  else
  (chk (inR ((a0.length : Int) + 4)) <|
  chk (inR ((a0.length : Int) + 4 + a1)) <|
  chk (inR ((a0.length : Int) + 4 + a1 - 1)) <|
  chk (a1 ≠ (0 : Int) ∧ inR (Int.tdiv ((a0.length : Int) + 4 + a1 - 1) a1)) <|
  if decide (65536 < (Int.tdiv ((a0.length : Int) + 4 + a1 - 1) a1)) then
  (some ((([] : List (List U8)), (8 : Int))))
  else
  (chk (inR ((Int.tdiv ((a0.length : Int) + 4 + a1 - 1) a1) * a1)) <|
  chk ((0 : Int) ≤ ((Int.tdiv ((a0.length : Int) + 4 + a1 - 1) a1) * a1) ∧ (1 : Int) * ((Int.tdiv ((a0.length : Int) + 4 + a1 - 1) a1) * a1) ≤ 281474976710656 ∧ ((Int.tdiv ((a0.length : Int) + 4 + a1 - 1) a1) * a1) ≤ 9223372036854775807) <|
  chk ((0 : Int) ≤ (⟨24⟩ : U64).n) <|
  chk ((0 : Int) ≤ (⟨16⟩ : U64).n) <|
  chk ((0 : Int) ≤ (⟨8⟩ : U64).n) <|
  chk ((4 : Int) ≤ ((((Int.tdiv ((a0.length : Int) + 4 + a1 - 1) a1) * a1).toNat : Nat) : Int)) <|
  chk (1 ≤ (Int.tdiv ((a0.length : Int) + 4 + a1 - 1) a1)) <|
  Option.bind (chunkG N (cpy (cpy (List.replicate ((Int.tdiv ((a0.length : Int) + 4 + a1 - 1) a1) * a1).toNat (⟨0⟩ : U8)) 0 ([(⟨convK .u8 (shrK .i64 (a0.length : Int) (⟨24⟩ : U64).n)⟩ : U8), (⟨convK .u8 (shrK .i64 (a0.length : Int) (⟨16⟩ : U64).n)⟩ : U8), (⟨convK .u8 (shrK .i64 (a0.length : Int) (⟨8⟩ : U64).n)⟩ : U8), (⟨convK .u8 (a0.length : Int)⟩ : U8)] : List U8)) 4 a0) (Int.tdiv ((a0.length : Int) + 4 + a1 - 1) a1) N 0 []) fun out =>
  Option.bind (check_Parity N out a2) fun pr =>
  if !decide (pr.2 = 0) then
  (some ((([] : List (List U8)), pr.2)))
  else
  (chk ((out.length + pr.1.length) * 24 ≤ 140737488355328 ∧ out.length + pr.1.length ≤ maxLen) <|
  some ((out ++ pr.1, (0 : Int)))))))

/-- What holds between two rounds. -/
structure DivJ (s0 : St) (l D bo : Nat) (r : Loop) (pre : List (List U8)) (s : St) : Prop where
  ext : Ext s0 s
  rec_ : s.w.heap[l]? = some (.loop r)
  g : s.g l = 0
  dfr : s.w.heap[D]? = some (.deferred (some []))
  gd : s.g D = 0
  out : ∃ vo, Var s bo 24 (⟨vo⟩ : RawV) ∧ Bld s s0.w.heap.size 22 vo pre
theorem at_lt {w : World} {b : Nat} {o : Obj} (h : w.heap[b]? = some o) : b < w.heap.size := (Array.getElem?_eq_some_iff.1 h).1
theorem at_ext {s s' : St} {b : Nat} {o : Obj} (e : Ext s s') (h : s.w.heap[b]? = some o) : s'.w.heap[b]? = some o := (e.block b (at_lt h) (fun x => x)).trans h
theorem at_tch {s s' : St} {b : Nat} {o : Obj} {M : Nat → Prop} (e : Tch M s s') (h : s.w.heap[b]? = some o) (hn : ¬ M b) : s'.w.heap[b]? = some o := (e.block b (at_lt h) hn).trans h
theorem Var.heap {α : Type} [Rep α] {s : St} {b : Nat} {E : TypeId} {x : α} (h : Var s b E x) : ∃ cs, s.w.heap[b]? = some (.cells cs E (0, 0)) := by
  obtain ⟨cs, h1, _⟩ := h; exact ⟨_, h1.heap⟩
theorem DivJ.more {s0 s s' : St} {l D bo : Nat} {r : Loop} {pre : List (List U8)} (h : DivJ s0 l D bo r pre s) (e : Ext s s') : DivJ s0 l D bo r pre s' := by
  obtain ⟨vo, h1, h2⟩ := h.out
  exact ⟨h.ext.trans e, at_ext e h.rec_, (e.g l (at_lt h.rec_) (fun x => x)).trans h.g, at_ext e h.dfr, (e.g D (at_lt h.dfr) (fun x => x)).trans h.gd, vo, h1.ext e, h2.ext e⟩
/-- A round begins. -/
theorem DivJ.begins {s0 s s1 : St} {l D bo : Nat} {r : Loop} {pre : List (List U8)} (h : DivJ s0 l D bo r pre s) (t1 : Tch (fun k => k = l) s s1) : ∃ vo, Var s1 bo 24 (⟨vo⟩ : RawV) ∧ Bld s1 s0.w.heap.size 22 vo pre := by
  obtain ⟨vo, h1, h2⟩ := h.out
  refine ⟨vo, h1.tch t1 (fun e => ?_), h2.tch t1 (fun b hb e => ?_)⟩
  · obtain ⟨cs, hc⟩ := h1.heap
    rw [e, h.rec_] at hc; cases hc
  · obtain ⟨cs, hc⟩ := h2.heap hb
    rw [e, h.rec_] at hc; cases hc
/-- A round ends. -/
theorem DivJ.ends {s0 s s1 s4 s5 s6 : St} {l D bo : Nat} {r r1 : Loop} {pre post : List (List U8)} {vo vo' : Value} (h : DivJ s0 l D bo r pre s) (t1 : Tch (fun k => k = l) s s1) (h1 : s1.w.heap[l]? = some (.loop r1)) (g1 : s1.g l = 0)
    (hv : Var s1 bo 24 (⟨vo⟩ : RawV)) (hb : Bld s1 s0.w.heap.size 22 vo pre) (e4 : Ext s1 s4) (g5 : Grows s4 s0.w.heap.size 22 vo vo' post s5) (t6 : Tch (fun k => k = bo) s5 s6) (hv6 : Var s6 bo 24 (⟨vo'⟩ : RawV)) (hl : s0.w.heap.size ≤ l) (hbo : s0.w.heap.size ≤ bo) :
    s6.w.heap[l]? = some (.loop r1) ∧ Le s (s6.putO l (.loop r)) ∧ DivJ s0 l D bo r post (s6.putO l (.loop r)) := by
  have nl : ¬ own vo l := fun x => by obtain ⟨cs, hc⟩ := hb.heap x; rw [h1] at hc; cases hc
  have hD1 : s1.w.heap[D]? = some (.deferred (some [])) := at_tch t1 h.dfr (fun e => by have := h.dfr; rw [e, h.rec_] at this; cases this)
  have nD : ¬ own vo D := fun x => by obtain ⟨cs, hc⟩ := hb.heap x; rw [hD1] at hc; cases hc
  obtain ⟨cs, hcs⟩ := hv.heap
  have nb : ¬ own vo bo := fun x => by obtain ⟨cs', hc⟩ := hb.heap x; rw [hcs] at hc; injection hc with hc; injection hc with _ hc; cases hc
  have lb : l ≠ bo := fun e => by rw [e, hcs] at h1; cases h1
  have Db : D ≠ bo := fun e => by rw [e, hcs] at hD1; cases hD1
  have lD : D ≠ l := fun e => by rw [e, h1] at hD1; cases hD1
  have z4 : s1.w.heap.size ≤ s4.w.heap.size := e4.size
  have own' : ∀ b, own vo' b → b < s1.w.heap.size → own vo b := fun b x y => (g5.own b x).resolve_right (by omega)
  have h6 : s6.w.heap[l]? = some (.loop r1) := at_tch t6 (at_tch g5.tch (at_ext e4 h1) nl) lb
  have hD6 : s6.w.heap[D]? = some (.deferred (some [])) := at_tch t6 (at_tch g5.tch (at_ext e4 hD1) nD) Db
  have l1 := at_lt h1
  have D1 := at_lt hD1
  have b1 := at_lt hcs
  have z5 : s4.w.heap.size ≤ s5.w.heap.size := g5.tch.size
  have g6 : s6.g l = 0 := by rw [t6.g l (by omega) lb, g5.tch.g l (by omega) nl, e4.g l (by omega) (fun x => x)]; exact g1
  have gD6 : s6.g D = 0 := by rw [t6.g D (by omega) Db, g5.tch.g D (by omega) nD, e4.g D (by omega) (fun x => x), t1.g D (at_lt h.dfr) lD]; exact h.gd
  have t7 : Tch (fun k => k = l) s6 (s6.putO l (.loop r)) := Tch.putO g6
  have E1 : Ext s0 s1 := Tch.trans h.ext t1 (fun k hk => .inr (by subst hk; exact hl))
  have E5 : Ext s0 s5 := Tch.trans (E1.trans e4) g5.tch (fun k hk => .inr (hb.lt hk).1)
  have E6 : Ext s0 s6 := Tch.trans E5 t6 (fun k hk => .inr (by subst hk; exact hbo))
  have E7 : Ext s0 (s6.putO l (.loop r)) := Tch.trans E6 t7 (fun k hk => .inr (by subst hk; exact hl))
  refine ⟨h6, t1.le.trans (e4.le.trans (g5.tch.le.trans (t6.le.trans t7.le))), E7, putO_at (at_lt h6), g6, at_tch t7 hD6 lD, gD6, vo', hv6.tch t7 (fun e => lb e.symm), ?_⟩
  exact (g5.bld.tch t6 (fun b x e => nb (own' bo (e ▸ x) b1))).tch t7 (fun b x e => nl (own' l (e ▸ x) l1))

theorem check_Divide_okB (N : Nat) (s0 : St) (w0 : Value) (a0 : List U8) (h0 : V s0 w0 a0) (a1 : Int) (a2 : Int) (r : (List (List U8)) × Int) (hr : check_Divide N a0 a1 a2 = some r) :
    Calls Try.prog 32 #[w0, .int .i64 a1, .int .i64 a2] s0.w (Ret s0 fun v s => ∃ a b, v = .tuple #[a, b] ∧ Bld s s0.w.heap.size 22 a r.1 ∧ V s b r.2) := by
  unfold check_Divide at hr
  have hE0 := Ext.refl s0
  refine Calls_of_WT (n := 84) (args := [w0, .int .i64 a1, .int .i64 a2]) Try.func32 rfl rfl (by simp) ?_
  first | refine WT_seq ?_ | refine W_seq ?_
  refine W_region ?_
  refine L_assign (rfl : _ = Value.slice none 0 0) (by decide) ?_
  refine L_assign (rfl : _ = Value.int .i64 (0)) (by decide) ?_
  refine L_nil ?_
  refine then_n ?_
  first | refine WT_seq ?_ | refine W_seq ?_
  obtain ⟨o2, ho3, hq4⟩ := bind_some hr
  refine W_seq_cut (fun f w => ∃ (s : St) (x1 : Bool), s.w = w ∧ Ext s0 s ∧ Le s0 s ∧ x1 = o2 ∧ f 28 = Value.bool x1 ∧ f 0 = w0 ∧ f 1 = Value.int .i64 (a1) ∧ f 6 = Value.slice none 0 0 ∧ f 7 = Value.int .i64 (0) ∧ f 2 = Value.int .i64 (a2)) ?_ ?_
  · have hr := ho3
    refine W_region ?_
    refine L_move (rfl : _ = Value.int .i64 (a1)) (by decide) ?_
    refine L_lss (rfl : _ = Value.int .i64 (a1)) (rfl : _ = Value.int .i64 (1)) (by decide) ?_
    refine L_move (rfl : _ = Value.bool (decide (a1 < 1))) (by decide) ?_
    rcases Bool.eq_false_or_eq_true (decide (a1 < 1)) with hb5 | hb5
    · have hr := ite_t hb5 hr
      refine L_gf (e := 17) (by rfl) (by decide) (rfl : _ = Value.bool (decide (a1 < 1))) hb5 (by decide) ?_
      refine L_gf (e := 17) (by rfl) (by decide) (rfl : _ = Value.bool (decide (a1 < 1))) hb5 (by decide) ?_
      refine L_pick_t (rfl : _ = Value.bool (decide (a1 < 1))) hb5 (rfl : _ = Value.bool (true)) (by decide) ?_
      refine L_move (rfl : _ = Value.bool (true)) (by decide) ?_
      refine L_gf (e := 21) (by rfl) (by decide) (rfl : _ = Value.bool (true)) rfl (by decide) ?_
      refine L_gf (e := 21) (by rfl) (by decide) (rfl : _ = Value.bool (true)) rfl (by decide) ?_
      refine L_pick_t (rfl : _ = Value.bool (true)) rfl (rfl : _ = Value.bool (true)) (by decide) ?_
      refine L_move (rfl : _ = Value.bool (true)) (by decide) ?_
      refine L_gf (e := 25) (by rfl) (by decide) (rfl : _ = Value.bool (true)) rfl (by decide) ?_
      refine L_gf (e := 25) (by rfl) (by decide) (rfl : _ = Value.bool (true)) rfl (by decide) ?_
      refine L_pick_t (rfl : _ = Value.bool (true)) rfl (rfl : _ = Value.bool (true)) (by decide) ?_
      refine L_nil ?_
      exact then_n ⟨s0, true, rfl, hE0, (Le.refl _), Option.some.inj hr, rfl, rfl, rfl, rfl, rfl, rfl⟩
    · have hr := ite_f hb5 hr
      refine L_gt (e := 17) (by rfl) (by decide) (rfl : _ = Value.bool (decide (a1 < 1))) hb5 ?_
      refine L_move (rfl : _ = Value.int .i64 (a1)) (by decide) ?_
      refine L_gt (e := 17) (by rfl) (by decide) (rfl : _ = Value.bool (decide (a1 < 1))) hb5 ?_
      refine L_gtr (rfl : _ = Value.int .i64 (a1)) (rfl : _ = Value.int .i64 (16)) (by decide) ?_
      refine L_pick_f (rfl : _ = Value.bool (decide (a1 < 1))) hb5 (rfl : _ = Value.bool (decide (16 < a1))) (by decide) ?_
      refine L_move (rfl : _ = Value.bool (decide (16 < a1))) (by decide) ?_
      rcases Bool.eq_false_or_eq_true (decide (16 < a1)) with hb6 | hb6
      · have hr := ite_t hb6 hr
        refine L_gf (e := 21) (by rfl) (by decide) (rfl : _ = Value.bool (decide (16 < a1))) hb6 (by decide) ?_
        refine L_gf (e := 21) (by rfl) (by decide) (rfl : _ = Value.bool (decide (16 < a1))) hb6 (by decide) ?_
        refine L_pick_t (rfl : _ = Value.bool (decide (16 < a1))) hb6 (rfl : _ = Value.bool (true)) (by decide) ?_
        refine L_move (rfl : _ = Value.bool (true)) (by decide) ?_
        refine L_gf (e := 25) (by rfl) (by decide) (rfl : _ = Value.bool (true)) rfl (by decide) ?_
        refine L_gf (e := 25) (by rfl) (by decide) (rfl : _ = Value.bool (true)) rfl (by decide) ?_
        refine L_pick_t (rfl : _ = Value.bool (true)) rfl (rfl : _ = Value.bool (true)) (by decide) ?_
        refine L_nil ?_
        exact then_n ⟨s0, true, rfl, hE0, (Le.refl _), Option.some.inj hr, rfl, rfl, rfl, rfl, rfl, rfl⟩
      · have hr := ite_f hb6 hr
        refine L_gt (e := 21) (by rfl) (by decide) (rfl : _ = Value.bool (decide (16 < a1))) hb6 ?_
        refine L_move (rfl : _ = Value.int .i64 (a2)) (by decide) ?_
        refine L_gt (e := 21) (by rfl) (by decide) (rfl : _ = Value.bool (decide (16 < a1))) hb6 ?_
        refine L_lss (rfl : _ = Value.int .i64 (a2)) (rfl : _ = Value.int .i64 (0)) (by decide) ?_
        refine L_pick_f (rfl : _ = Value.bool (decide (16 < a1))) hb6 (rfl : _ = Value.bool (decide (a2 < 0))) (by decide) ?_
        refine L_move (rfl : _ = Value.bool (decide (a2 < 0))) (by decide) ?_
        rcases Bool.eq_false_or_eq_true (decide (a2 < 0)) with hb7 | hb7
        · have hr := ite_t hb7 hr
          refine L_gf (e := 25) (by rfl) (by decide) (rfl : _ = Value.bool (decide (a2 < 0))) hb7 (by decide) ?_
          refine L_gf (e := 25) (by rfl) (by decide) (rfl : _ = Value.bool (decide (a2 < 0))) hb7 (by decide) ?_
          refine L_pick_t (rfl : _ = Value.bool (decide (a2 < 0))) hb7 (rfl : _ = Value.bool (true)) (by decide) ?_
          refine L_nil ?_
          exact then_n ⟨s0, true, rfl, hE0, (Le.refl _), Option.some.inj hr, rfl, rfl, rfl, rfl, rfl, rfl⟩
        · have hr := ite_f hb7 hr
          refine L_gt (e := 25) (by rfl) (by decide) (rfl : _ = Value.bool (decide (a2 < 0))) hb7 ?_
          refine L_move (rfl : _ = Value.int .i64 (a2)) (by decide) ?_
          refine L_gt (e := 25) (by rfl) (by decide) (rfl : _ = Value.bool (decide (a2 < 0))) hb7 ?_
          refine L_gtr (rfl : _ = Value.int .i64 (a2)) (rfl : _ = Value.int .i64 (16)) (by decide) ?_
          refine L_pick_f (rfl : _ = Value.bool (decide (a2 < 0))) hb7 (rfl : _ = Value.bool (decide (16 < a2))) (by decide) ?_
          refine L_nil ?_
          exact then_n ⟨s0, (decide (16 < a2)), rfl, hE0, (Le.refl _), Option.some.inj hr, rfl, rfl, rfl, rfl, rfl, rfl⟩
  · rintro f39 w40 ⟨s8, x1, rfl, hE10, l9, ho3, g11_28, g11_0, g11_1, g11_6, g11_7, g11_2⟩
    subst ho3
    have hr := hq4
    try dsimp only at hr
    refine W_cond _ g11_28 (fun hb12 => ?_) (fun hb12 => ?_)
    · have hr := ite_t hb12 hr
      first | refine WT_seq ?_ | refine W_seq ?_
      refine W_region ?_
      refine L_assign (rfl : _ = Value.slice none 0 0) (by decide) ?_
      refine L_assign (rfl : _ = Value.int .i64 (3)) (by decide) ?_
      refine L_nil ?_
      refine then_n ?_
      refine W_ret ?_
      refine then_r ?_
      obtain rfl := Option.some.inj hr
      exact fun a ha => done_plain ha (done2 (Or.inl rfl) Try.results32 rfl rfl ⟨_, _, rfl, rfl, hE10, _, _, rfl, Bld.nil, Vint⟩)
    · have hr := ite_f hb12 hr
      refine W_skip ?_
      refine then_n ?_
      first | refine WT_seq ?_ | refine W_seq ?_
      refine W_region ?_
      refine L_move g11_0 (by decide) ?_
      refine L_len Try.underlying22 (rfl : _ = w0) (h0.mono l9) (by decide) ?_
      obtain ⟨hc13, hr⟩ := chk_some hr
      refine L_add (rfl : _ = Value.int .i64 ((a0.length : Int))) (rfl : _ = Value.int .i64 (4)) hc13 (by decide) ?_
      refine L_move g11_1 (by decide) ?_
      obtain ⟨hc14, hr⟩ := chk_some hr
      refine L_add (rfl : _ = Value.int .i64 ((a0.length : Int) + 4)) (rfl : _ = Value.int .i64 (a1)) hc14 (by decide) ?_
      obtain ⟨hc15, hr⟩ := chk_some hr
      refine L_sub (rfl : _ = Value.int .i64 ((a0.length : Int) + 4 + a1)) (rfl : _ = Value.int .i64 (1)) hc15 (by decide) ?_
      refine L_move g11_1 (by decide) ?_
      obtain ⟨hc16, hr⟩ := chk_some hr
      refine L_quo (rfl : _ = Value.int .i64 ((a0.length : Int) + 4 + a1 - 1)) (rfl : _ = Value.int .i64 (a1)) hc16.1 hc16.2 (by decide) ?_
      refine L_assign (rfl : _ = Value.int .i64 (Int.tdiv ((a0.length : Int) + 4 + a1 - 1) a1)) (by decide) ?_
      refine L_nil ?_
      refine then_n ?_
      first | refine WT_seq ?_ | refine W_seq ?_
      first | refine WT_seq ?_ | refine W_seq ?_
      refine W_region ?_
      refine L_move (rfl : _ = Value.int .i64 (Int.tdiv ((a0.length : Int) + 4 + a1 - 1) a1)) (by decide) ?_
      refine L_gtr (rfl : _ = Value.int .i64 (Int.tdiv ((a0.length : Int) + 4 + a1 - 1) a1)) (rfl : _ = Value.int .i64 (65536)) (by decide) ?_
      refine L_nil ?_
      refine then_n ?_
      refine W_cond _ (rfl : _ = Value.bool (decide (65536 < (Int.tdiv ((a0.length : Int) + 4 + a1 - 1) a1)))) (fun hb17 => ?_) (fun hb17 => ?_)
      · have hr := ite_t hb17 hr
        first | refine WT_seq ?_ | refine W_seq ?_
        refine W_region ?_
        refine L_assign (rfl : _ = Value.slice none 0 0) (by decide) ?_
        refine L_assign (rfl : _ = Value.int .i64 (8)) (by decide) ?_
        refine L_nil ?_
        refine then_n ?_
        refine W_ret ?_
        refine then_r ?_
        obtain rfl := Option.some.inj hr
        exact fun a ha => done_plain ha (done2 (Or.inl rfl) Try.results32 rfl rfl ⟨_, _, rfl, rfl, hE10, _, _, rfl, Bld.nil, Vint⟩)
      · have hr := ite_f hb17 hr
        refine W_skip ?_
        refine then_n ?_
        first | refine WT_seq ?_ | refine W_seq ?_
        refine W_region ?_
        refine L_move g11_0 (by decide) ?_
        refine L_len Try.underlying22 (rfl : _ = w0) (h0.mono l9) (by decide) ?_
        refine L_assign (rfl : _ = Value.int .i64 ((a0.length : Int))) (by decide) ?_
        refine L_nil ?_
        refine then_n ?_
        first | refine WT_seq ?_ | refine W_seq ?_
        refine W_region ?_
        refine L_move (rfl : _ = Value.int .i64 (Int.tdiv ((a0.length : Int) + 4 + a1 - 1) a1)) (by decide) ?_
        refine L_move g11_1 (by decide) ?_
        obtain ⟨hc18, hr⟩ := chk_some hr
        refine L_mul (rfl : _ = Value.int .i64 (Int.tdiv ((a0.length : Int) + 4 + a1 - 1) a1)) (rfl : _ = Value.int .i64 (a1)) hc18 (by decide) ?_
        obtain ⟨hc19, hr⟩ := chk_some hr
        refine L_makeArr (x0 := (⟨0⟩ : U8)) Try.underlying22 tyz5 (rfl : _ = Value.int .i64 ((Int.tdiv ((a0.length : Int) + 4 + a1 - 1) a1) * a1)) hc19.1 hc19.2.1 hc19.2.2 (fun _ => rfl) (by decide) ?_
        intro s24 b21 e20 hb22 hv23
        have hE25 := Tch.ext hE10 e20
        refine L_assign (rfl : _ = Value.slice (some ⟨b21, 0, none⟩) ((Int.tdiv ((a0.length : Int) + 4 + a1 - 1) a1) * a1).toNat ((Int.tdiv ((a0.length : Int) + 4 + a1 - 1) a1) * a1).toNat) (by decide) ?_
        refine L_nil ?_
        refine then_n ?_
        first | refine WT_seq ?_ | refine W_seq ?_
        refine W_region ?_
        refine L_move (rfl : _ = Value.slice (some ⟨b21, 0, none⟩) ((Int.tdiv ((a0.length : Int) + 4 + a1 - 1) a1) * a1).toNat ((Int.tdiv ((a0.length : Int) + 4 + a1 - 1) a1) * a1).toNat) (by decide) ?_
        refine L_move (rfl : _ = Value.int .i64 ((a0.length : Int))) (by decide) ?_
        obtain ⟨hc26, hr⟩ := chk_some hr
        refine L_shrK (rfl : _ = Value.int .i64 ((a0.length : Int))) (rfl : _ = Value.int .u64 ((⟨24⟩ : U64)).n) hc26 (by decide) ?_
        refine L_convK Try.underlying3 Try.underlying5 (rfl : _ = Value.int .i64 (shrK .i64 (a0.length : Int) (⟨24⟩ : U64).n)) (by decide) ?_
        refine L_move (rfl : _ = Value.int .i64 ((a0.length : Int))) (by decide) ?_
        obtain ⟨hc27, hr⟩ := chk_some hr
        refine L_shrK (rfl : _ = Value.int .i64 ((a0.length : Int))) (rfl : _ = Value.int .u64 ((⟨16⟩ : U64)).n) hc27 (by decide) ?_
        refine L_convK Try.underlying3 Try.underlying5 (rfl : _ = Value.int .i64 (shrK .i64 (a0.length : Int) (⟨16⟩ : U64).n)) (by decide) ?_
        refine L_move (rfl : _ = Value.int .i64 ((a0.length : Int))) (by decide) ?_
        obtain ⟨hc28, hr⟩ := chk_some hr
        refine L_shrK (rfl : _ = Value.int .i64 ((a0.length : Int))) (rfl : _ = Value.int .u64 ((⟨8⟩ : U64)).n) hc28 (by decide) ?_
        refine L_convK Try.underlying3 Try.underlying5 (rfl : _ = Value.int .i64 (shrK .i64 (a0.length : Int) (⟨8⟩ : U64).n)) (by decide) ?_
        refine L_move (rfl : _ = Value.int .i64 ((a0.length : Int))) (by decide) ?_
        refine L_convK Try.underlying3 Try.underlying5 (rfl : _ = Value.int .i64 ((a0.length : Int))) (by decide) ?_
        refine L_buildSlice (xs := ([(⟨convK .u8 (shrK .i64 (a0.length : Int) (⟨24⟩ : U64).n)⟩ : U8), (⟨convK .u8 (shrK .i64 (a0.length : Int) (⟨16⟩ : U64).n)⟩ : U8), (⟨convK .u8 (shrK .i64 (a0.length : Int) (⟨8⟩ : U64).n)⟩ : U8), (⟨convK .u8 (a0.length : Int)⟩ : U8)] : List U8)) Try.underlying22 tyz5 (Parts_cons rfl (rfl : _ = Value.int .u8 ((⟨convK .u8 (shrK .i64 (a0.length : Int) (⟨24⟩ : U64).n)⟩ : U8)).n) (Parts_cons rfl (rfl : _ = Value.int .u8 ((⟨convK .u8 (shrK .i64 (a0.length : Int) (⟨16⟩ : U64).n)⟩ : U8)).n) (Parts_cons rfl (rfl : _ = Value.int .u8 ((⟨convK .u8 (shrK .i64 (a0.length : Int) (⟨8⟩ : U64).n)⟩ : U8)).n) (Parts_cons rfl (rfl : _ = Value.int .u8 ((⟨convK .u8 (a0.length : Int)⟩ : U8)).n) Parts_nil)))) (Vs.cons Vu8 (Vs.cons Vu8 (Vs.cons Vu8 (Vs.cons Vu8 Vs.nil)))) rfl (by decide) (by decide) ?_
        intro s33 v30 e29 hb31 hv32
        have hE34 := Tch.ext hE25 e29
        refine L_copyA (xs := (List.replicate ((Int.tdiv ((a0.length : Int) + 4 + a1 - 1) a1) * a1).toNat (⟨0⟩ : U8))) flatU8 Try.underlying22 ty5.inf (rfl : _ = Value.slice (some ⟨b21, 0, none⟩) ((Int.tdiv ((a0.length : Int) + 4 + a1 - 1) a1) * a1).toNat ((Int.tdiv ((a0.length : Int) + 4 + a1 - 1) a1) * a1).toNat) ((hv23).ext e29) (rfl : _ = v30) hv32 (by decide) ?_
        intro s37 e35 hv36
        have hE38 := Tch.trans hE34 e35 (fun k hk => Or.inr (by subst hk; exact (Nat.le_trans hE10.size hb22)))
        refine L_nil ?_
        refine then_n ?_
        refine WT_seq ?_
        refine W_region ?_
        refine L_move (rfl : _ = Value.slice (some ⟨b21, 0, none⟩) ((Int.tdiv ((a0.length : Int) + 4 + a1 - 1) a1) * a1).toNat ((Int.tdiv ((a0.length : Int) + 4 + a1 - 1) a1) * a1).toNat) (by decide) ?_
        obtain ⟨hc40, hr⟩ := chk_some hr
        refine L_sliceA_e Try.underlying22 ty5.inf (rfl : _ = Value.slice (some ⟨b21, 0, none⟩) ((Int.tdiv ((a0.length : Int) + 4 + a1 - 1) a1) * a1).toNat ((Int.tdiv ((a0.length : Int) + 4 + a1 - 1) a1) * a1).toNat) (rfl : _ = Value.int .i64 4) (by decide) hc40 (by decide) ?_
        intro ve hve
        refine L_move g11_0 (by decide) ?_
        refine L_copyE (lo := 4) flatU8 Try.underlying22 ty5.inf (rfl : _ = ve) hve hv36 (by omega) (rfl : _ = w0) (h0.mono (l9.trans (e20.le.trans (e29.le.trans e35.le)))) (by decide) ?_
        intro s41 e41 hv41
        have hE41 := Tch.trans hE38 e41 (fun k hk => Or.inr (by subst hk; exact (Nat.le_trans hE10.size hb22)))
        refine L_nil ?_
        refine then_n ?_
        refine WT_seq ?_
        refine W_region ?_
        refine L_alloc (α := RawV) (z := .slice none 0 0) (x := (⟨.slice none 0 0⟩ : RawV)) (by kernel_rfl) (fun _ => ⟨rfl, rfl⟩) (by decide) ?_
        intro s42 bo e42 hbo hvo
        have hE42 := Tch.ext hE41 e42
        refine L_nil ?_
        refine then_n ?_
        obtain ⟨hc43, hr⟩ := chk_some hr
        obtain ⟨out, ho, hr⟩ := bind_some hr
        obtain ⟨pr, hpr, hr⟩ := bind_some hr
        refine WT_seqT ?_
        refine WT_seq ?_
        refine W_region ?_
        refine L_move (rfl : _ = Value.slice (some ⟨b21, 0, none⟩) ((Int.tdiv ((a0.length : Int) + 4 + a1 - 1) a1) * a1).toNat ((Int.tdiv ((a0.length : Int) + 4 + a1 - 1) a1) * a1).toNat) (by decide) ?_
        refine L_move (rfl : _ = Value.int .i64 (Int.tdiv ((a0.length : Int) + 4 + a1 - 1) a1)) (by decide) ?_
        obtain ⟨s43, e43, t43, hall⟩ := (hv41.ext e42).freeze
        have hb41 := hv41.lt
        have hE43 : Ext s0 s43 := Tch.trans hE42 t43 (fun k hk => Or.inr (by subst hk; exact (Nat.le_trans hE10.size hb22)))
        have hvo43 : Var s43 bo 24 (⟨.slice none 0 0⟩ : RawV) := hvo.tch t43 (fun e => by omega)
        rw [← e43]
        refine L_calls calD_ch (args2 (rfl : _ = Value.slice (some ⟨b21, 0, none⟩) ((Int.tdiv ((a0.length : Int) + 4 + a1 - 1) a1) * a1).toNat ((Int.tdiv ((a0.length : Int) + 4 + a1 - 1) a1) * a1).toNat) (rfl : _ = Value.int .i64 (Int.tdiv ((a0.length : Int) + 4 + a1 - 1) a1))) (chunk_ok s43 _ (cpy (cpy (List.replicate ((Int.tdiv ((a0.length : Int) + 4 + a1 - 1) a1) * a1).toNat (⟨0⟩ : U8)) 0 ([(⟨convK .u8 (shrK .i64 (a0.length : Int) (⟨24⟩ : U64).n)⟩ : U8), (⟨convK .u8 (shrK .i64 (a0.length : Int) (⟨16⟩ : U64).n)⟩ : U8), (⟨convK .u8 (shrK .i64 (a0.length : Int) (⟨8⟩ : U64).n)⟩ : U8), (⟨convK .u8 (a0.length : Int)⟩ : U8)] : List U8)) 4 a0) hall (Int.tdiv ((a0.length : Int) + 4 + a1 - 1) a1) hc43) (by decide) ?_
        rintro v44 s44 e44 ⟨pa, pb, rfl, hpa, hpb⟩
        have hE44 := hE43.trans e44
        have hbo0 : s0.w.heap.size ≤ bo := Nat.le_trans hE41.size hbo
        refine L_nil ?_
        refine then_n ?_
        have qb : ∀ (v : Value), True := fun _ => trivial
        clear qb
        generalize hf0 : (upd _ 65 _ : Fr) = f0
        have fb : f0 11 = .pointer (some ⟨bo, 0, none⟩) := by rw [← hf0]; rfl
        have f2 : f0 2 = .int .i64 a2 := by rw [← hf0]; exact g11_2
        have fg : f0 65 = .func (.func 88) #[] #[pa, pb] := by rw [← hf0]; rfl
        clear hf0
        refine WT_block ?_
        intro a ha
        refine range_ok (s := s44) (by rw [ha.ev]; exact fg) calD_it ?_
        intro fn
        have hlo : s0.w.heap.size ≤ s44.w.heap.size + 1 := Nat.le_succ_of_le hE44.size
        generalize hr0 : loopOf fn a.tmps _ _ _ s44.w.heap.size = r0
        obtain ⟨q1, q2, q3, q4⟩ := looped_facts s44 r0
        have eL := looped_ext s44 r0
        have J0 : DivJ s0 (s44.w.heap.size + 1) s44.w.heap.size bo r0 [] (s44.looped r0) := ⟨hE44.trans eL, q1, q2, q3, q4, _, (hvo43.ext e44).ext eL, Bld.nil⟩
        refine Calls.mono (iter_ok N (s44.looped r0) (s44.w.heap.size + 1) r0 (DivJ s0 (s44.w.heap.size + 1) s44.w.heap.size bo r0) pa pb (cpy (cpy (List.replicate ((Int.tdiv ((a0.length : Int) + 4 + a1 - 1) a1) * a1).toNat (⟨0⟩ : U8)) 0 ([(⟨convK .u8 (shrK .i64 (a0.length : Int) (⟨24⟩ : U64).n)⟩ : U8), (⟨convK .u8 (shrK .i64 (a0.length : Int) (⟨16⟩ : U64).n)⟩ : U8), (⟨convK .u8 (shrK .i64 (a0.length : Int) (⟨8⟩ : U64).n)⟩ : U8), (⟨convK .u8 (a0.length : Int)⟩ : U8)] : List U8)) 4 a0) (Int.tdiv ((a0.length : Int) + 4 + a1 - 1) a1) (hpa.mono eL.le) (hpb.mono eL.le) (by rw [← hr0]; rfl) J0 (fun _ _ h => h.rec_) (fun _ _ _ h e => h.more e) ?_ out ho) ?_
        · intro pre s v x y hJ hLe hv hy hc
          subst hr0
          refine round_st (n := 84) (f := upd f0 66 v) (s := s) (fits_round ha (by decide)) hJ.rec_ rfl hJ.g rfl ?_
          refine L_assign (rfl : _ = v) (by decide) ?_
          refine L_nil ⟨rfl, rfl, ?_⟩
          intro s1 r1 t1 hrec1 hg1 hrr
          obtain ⟨vo, hvar, hbld⟩ := hJ.begins t1
          have eD := Ext.drew s1
          have qb : ∀ (g : Fr), g 11 = f0 11 → g 11 = .pointer (some ⟨bo, 0, none⟩) := fun _ h => h.trans fb
          refine WR_block ?_
          refine WR_any (s := s1) mixedD rfl ?_
          refine AN_two 0 1 (by kernel_rfl) rfl rfl rfl rfl ?_ ?_
          · refine L_load_var tyRawV (qb _ rfl) (hvar.ext eD) (by decide) ?_
            intro u hu
            obtain rfl : vo = u := hu.raw.symm
            refine L_nil ⟨rfl, ?_⟩
            refine AN_one 1 (by kernel_rfl) rfl rfl ?_
            refine L_move (rfl : _ = v) (by decide) ?_
            refine L_nil ⟨rfl, ?_⟩
            refine AN_one 2 (by kernel_rfl) rfl rfl ?_
            refine L_calls (s := s1.drew) calD_cl (args1 (rfl : _ = v)) (slices_Clone_Lbyte_byte_ok N _ v x ((hv.mono t1.le).mono eD.le) y hy) (by decide) ?_
            intro vy s3 e3 hvy
            refine L_nil ⟨rfl, ?_⟩
            refine AN_one 3 (by kernel_rfl) rfl rfl ?_
            refine L_buildSlice (s := s3) (xs := ([y] : List (List U8))) Try.underlying24 tyzB3 (Parts_cons rfl (rfl : _ = vy) Parts_nil) (Vs.cons hvy Vs.nil) rfl (by decide) (by decide) ?_
            intro s4 vb e4 _ hv4
            have E4 := (eD.trans e3).trans e4
            refine L_nil ⟨rfl, ?_⟩
            refine AN_one 4 (by kernel_rfl) rfl rfl ?_
            refine L_append (s := s4) (xs := pre) (B := s0.w.heap.size) Try.underlying24 tyzB3 (rfl : _ = vo) (rfl : _ = vb) (hbld.ext E4) (Nat.le_trans hJ.ext.size (Nat.le_trans t1.size E4.size)) hv4 hc.1 hc.2 (by decide) ?_
            intro vo' s5 g5
            refine L_nil ⟨rfl, ?_⟩
            refine AN_one 5 (by kernel_rfl) rfl rfl ?_
            obtain ⟨cs, hcs⟩ := hvar.heap
            refine L_store (s := s5) tyRawV (qb _ rfl) (rfl : _ = vo') (Vraw g5.bld.one') ((hvar.ext E4).tch g5.tch (fun x => by obtain ⟨cs', hc'⟩ := hbld.heap x; rw [hcs] at hc'; injection hc' with hc'; injection hc' with _ hc'; cases hc')) ?_
            intro s6 t6 hv6
            obtain ⟨k1, k2, k3⟩ := hJ.ends t1 hrec1 hg1 hvar hbld E4 g5 t6 hv6 hlo hbo0
            have hr2 := congrArg (fun x : Loop => { x with pending := none }) hrr
            refine L_nil ⟨rfl, ?_⟩
            exact AN_done (by kernel_rfl) ⟨rfl, rfl, k1, rfl, s6.putO _ _, congrArg (fun x : Loop => s6.w.putObj (s44.w.heap.size + 1) (.loop x)) hr2.symm, k2, k3⟩
          · refine L_move (rfl : _ = v) (by decide) ?_
            refine L_nil ⟨rfl, ?_⟩
            refine AN_two 0 2 (by kernel_rfl) rfl rfl rfl rfl ?_ ?_
            · refine L_load_var tyRawV (qb _ rfl) (hvar.ext eD) (by decide) ?_
              intro u hu
              obtain rfl : vo = u := hu.raw.symm
              refine L_nil ⟨rfl, ?_⟩
              refine AN_one 2 (by kernel_rfl) rfl rfl ?_
              refine L_calls (s := s1.drew) calD_cl (args1 (rfl : _ = v)) (slices_Clone_Lbyte_byte_ok N _ v x ((hv.mono t1.le).mono eD.le) y hy) (by decide) ?_
              intro vy s3 e3 hvy
              refine L_nil ⟨rfl, ?_⟩
              refine AN_one 3 (by kernel_rfl) rfl rfl ?_
              refine L_buildSlice (s := s3) (xs := ([y] : List (List U8))) Try.underlying24 tyzB3 (Parts_cons rfl (rfl : _ = vy) Parts_nil) (Vs.cons hvy Vs.nil) rfl (by decide) (by decide) ?_
              intro s4 vb e4 _ hv4
              have E4 := (eD.trans e3).trans e4
              refine L_nil ⟨rfl, ?_⟩
              refine AN_one 4 (by kernel_rfl) rfl rfl ?_
              refine L_append (s := s4) (xs := pre) (B := s0.w.heap.size) Try.underlying24 tyzB3 (rfl : _ = vo) (rfl : _ = vb) (hbld.ext E4) (Nat.le_trans hJ.ext.size (Nat.le_trans t1.size E4.size)) hv4 hc.1 hc.2 (by decide) ?_
              intro vo' s5 g5
              refine L_nil ⟨rfl, ?_⟩
              refine AN_one 5 (by kernel_rfl) rfl rfl ?_
              obtain ⟨cs, hcs⟩ := hvar.heap
              refine L_store (s := s5) tyRawV (qb _ rfl) (rfl : _ = vo') (Vraw g5.bld.one') ((hvar.ext E4).tch g5.tch (fun x => by obtain ⟨cs', hc'⟩ := hbld.heap x; rw [hcs] at hc'; injection hc' with hc'; injection hc' with _ hc'; cases hc')) ?_
              intro s6 t6 hv6
              obtain ⟨k1, k2, k3⟩ := hJ.ends t1 hrec1 hg1 hvar hbld E4 g5 t6 hv6 hlo hbo0
              have hr2 := congrArg (fun x : Loop => { x with pending := none }) hrr
              refine L_nil ⟨rfl, ?_⟩
              exact AN_done (by kernel_rfl) ⟨rfl, rfl, k1, rfl, s6.putO _ _, congrArg (fun x : Loop => s6.w.putObj (s44.w.heap.size + 1) (.loop x)) hr2.symm, k2, k3⟩
            · refine L_calls (s := s1.drew) calD_cl (args1 (rfl : _ = v)) (slices_Clone_Lbyte_byte_ok N _ v x ((hv.mono t1.le).mono eD.le) y hy) (by decide) ?_
              intro vy s3 e3 hvy
              refine L_nil ⟨rfl, ?_⟩
              refine AN_two 0 3 (by kernel_rfl) rfl rfl rfl rfl ?_ ?_
              · refine L_load_var tyRawV (qb _ rfl) (hvar.ext (eD.trans e3)) (by decide) ?_
                intro u hu
                obtain rfl : vo = u := hu.raw.symm
                refine L_nil ⟨rfl, ?_⟩
                refine AN_one 3 (by kernel_rfl) rfl rfl ?_
                refine L_buildSlice (s := s3) (xs := ([y] : List (List U8))) Try.underlying24 tyzB3 (Parts_cons rfl (rfl : _ = vy) Parts_nil) (Vs.cons hvy Vs.nil) rfl (by decide) (by decide) ?_
                intro s4 vb e4 _ hv4
                have E4 := (eD.trans e3).trans e4
                refine L_nil ⟨rfl, ?_⟩
                refine AN_one 4 (by kernel_rfl) rfl rfl ?_
                refine L_append (s := s4) (xs := pre) (B := s0.w.heap.size) Try.underlying24 tyzB3 (rfl : _ = vo) (rfl : _ = vb) (hbld.ext E4) (Nat.le_trans hJ.ext.size (Nat.le_trans t1.size E4.size)) hv4 hc.1 hc.2 (by decide) ?_
                intro vo' s5 g5
                refine L_nil ⟨rfl, ?_⟩
                refine AN_one 5 (by kernel_rfl) rfl rfl ?_
                obtain ⟨cs, hcs⟩ := hvar.heap
                refine L_store (s := s5) tyRawV (qb _ rfl) (rfl : _ = vo') (Vraw g5.bld.one') ((hvar.ext E4).tch g5.tch (fun x => by obtain ⟨cs', hc'⟩ := hbld.heap x; rw [hcs] at hc'; injection hc' with hc'; injection hc' with _ hc'; cases hc')) ?_
                intro s6 t6 hv6
                obtain ⟨k1, k2, k3⟩ := hJ.ends t1 hrec1 hg1 hvar hbld E4 g5 t6 hv6 hlo hbo0
                have hr2 := congrArg (fun x : Loop => { x with pending := none }) hrr
                refine L_nil ⟨rfl, ?_⟩
                exact AN_done (by kernel_rfl) ⟨rfl, rfl, k1, rfl, s6.putO _ _, congrArg (fun x : Loop => s6.w.putObj (s44.w.heap.size + 1) (.loop x)) hr2.symm, k2, k3⟩
              · refine L_buildSlice (s := s3) (xs := ([y] : List (List U8))) Try.underlying24 tyzB3 (Parts_cons rfl (rfl : _ = vy) Parts_nil) (Vs.cons hvy Vs.nil) rfl (by decide) (by decide) ?_
                intro s4 vb e4 _ hv4
                have E4 := (eD.trans e3).trans e4
                refine L_nil ⟨rfl, ?_⟩
                refine AN_one 0 (by kernel_rfl) rfl rfl ?_
                refine L_load_var tyRawV (qb _ rfl) (hvar.ext E4) (by decide) ?_
                intro u hu
                obtain rfl : vo = u := hu.raw.symm
                refine L_nil ⟨rfl, ?_⟩
                refine AN_one 4 (by kernel_rfl) rfl rfl ?_
                refine L_append (s := s4) (xs := pre) (B := s0.w.heap.size) Try.underlying24 tyzB3 (rfl : _ = vo) (rfl : _ = vb) (hbld.ext E4) (Nat.le_trans hJ.ext.size (Nat.le_trans t1.size E4.size)) hv4 hc.1 hc.2 (by decide) ?_
                intro vo' s5 g5
                refine L_nil ⟨rfl, ?_⟩
                refine AN_one 5 (by kernel_rfl) rfl rfl ?_
                obtain ⟨cs, hcs⟩ := hvar.heap
                refine L_store (s := s5) tyRawV (qb _ rfl) (rfl : _ = vo') (Vraw g5.bld.one') ((hvar.ext E4).tch g5.tch (fun x => by obtain ⟨cs', hc'⟩ := hbld.heap x; rw [hcs] at hc'; injection hc' with hc'; injection hc' with _ hc'; cases hc')) ?_
                intro s6 t6 hv6
                obtain ⟨k1, k2, k3⟩ := hJ.ends t1 hrec1 hg1 hvar hbld E4 g5 t6 hv6 hlo hbo0
                have hr2 := congrArg (fun x : Loop => { x with pending := none }) hrr
                refine L_nil ⟨rfl, ?_⟩
                exact AN_done (by kernel_rfl) ⟨rfl, rfl, k1, rfl, s6.putO _ _, congrArg (fun x : Loop => s6.w.putObj (s44.w.heap.size + 1) (.loop x)) hr2.symm, k2, k3⟩
        · rintro e w3 ⟨s50, rfl, rfl, hL50, hJ50⟩
          refine ⟨_, rfl, r0, hJ50.rec_, by rw [← hr0]; rfl, by rw [← hr0]; rfl, ?_⟩
          refine tail_ok ha ?_
          have t51 : Tch (fun k => k = s44.w.heap.size + 1) s50 (s50.putO (s44.w.heap.size + 1) (.loop { r0 with state := .exhausted })) := Tch.putO hJ50.g
          show WR _ _ _ _ _ _ _ (s50.putO (s44.w.heap.size + 1) (.loop { r0 with state := .exhausted })).w
          generalize s50.putO (s44.w.heap.size + 1) (.loop { r0 with state := .exhausted }) = s51 at *
          obtain ⟨vo, hvar, hbld⟩ := hJ50.begins t51
          have E51 : Ext s0 s51 := Tch.trans hJ50.ext t51 (fun k hk => .inr (by subst hk; exact hlo))
          have hD51 : s51.w.heap[s44.w.heap.size]? = some (.deferred (some [])) := at_tch t51 hJ50.dfr (fun e => by omega)
          have gD51 : s51.g s44.w.heap.size = 0 := by rw [t51.g _ (at_lt hJ50.dfr) (fun e => by omega)]; exact hJ50.gd
          have hDlo : s0.w.heap.size ≤ s44.w.heap.size := hE44.size
          clear t51 hJ50 hL50 J0 eL q1 q2 q3 q4
          generalize s44.w.heap.size = D at *
          have nD : ¬ own vo D := fun x => by obtain ⟨cs, hc⟩ := hbld.heap x; rw [hD51] at hc; cases hc
          refine WR_seq ?_
          refine WR_region rfl (by rintro f w ⟨_, h | h, _⟩ <;> cases h) ?_
          refine L_load_var tyRawV fb hvar (by decide) ?_
          intro u hu
          obtain rfl : vo = u := hu.raw.symm
          refine L_move f2 (by decide) ?_
          refine L_calls (s := s51) calD_pa (args2 (rfl : _ = vo) (rfl : _ = Value.int .i64 a2)) (check_Parity_ok N _ vo out hbld.toV a2 pr hpr) (by decide) ?_
          rintro v60 s60 e60 ⟨va, vb, rfl, hva, hvb⟩
          obtain rfl := hvb.int
          have E60 := E51.trans e60
          have hD60 := at_ext e60 hD51
          have gD60 : s60.g D = 0 := (e60.g D (at_lt hD51) (fun x => x)).trans gD51
          refine L_move (rfl : _ = Value.tuple #[va, Value.int .i64 pr.2]) (by decide) ?_
          refine L_extract (rfl : _ = Value.tuple #[va, Value.int .i64 pr.2]) (k := 0) rfl (by decide) ?_
          refine L_extract (rfl : _ = Value.tuple #[va, Value.int .i64 pr.2]) (k := 1) rfl (by decide) ?_
          refine L_assign (rfl : _ = va) (by decide) ?_
          refine L_assign (rfl : _ = Value.int .i64 pr.2) (by decide) ?_
          refine L_nil ?_
          refine then_n ?_
          refine WR_seq ?_
          refine WR_seq ?_
          refine WR_region rfl (by rintro f w ⟨_, h | h, _⟩ <;> cases h) ?_
          refine L_move (rfl : _ = Value.int .i64 pr.2) (by decide) ?_
          refine L_neq (rfl : _ = Value.int .i64 pr.2) (rfl : _ = Value.int .i64 0) (by decide) ?_
          refine L_nil ?_
          refine then_n ?_
          have done' : ∀ (sx : St), Ext s0 sx → sx.g D = 0 → Ext s0 (sx.putO D (.deferred none)) := fun sx e g => Tch.trans e (Tch.putO g) (fun k hk => .inr (by subst hk; exact hDlo))
          refine WR_cond _ (rfl : _ = Value.bool (!decide (pr.2 = 0))) (fun hb => ?_) (fun hb => ?_)
          · have hr := ite_t hb hr
            obtain rfl := Option.some.inj hr
            refine WR_seq ?_
            refine WR_region rfl (by rintro f w ⟨_, h | h, _⟩ <;> cases h) ?_
            refine L_move (rfl : _ = Value.int .i64 pr.2) (by decide) ?_
            refine L_assign (rfl : _ = Value.slice none 0 0) (by decide) ?_
            refine L_assign (rfl : _ = Value.int .i64 pr.2) (by decide) ?_
            refine L_nil ?_
            refine then_n ?_
            refine WR_ret ?_
            exact ⟨hD60, done2 (Or.inl rfl) Try.results32 rfl rfl ⟨_, s60.putO D (.deferred none), rfl, rfl, done' _ E60 gD60, _, _, rfl, Bld.nil, Vint⟩⟩
          · have hr := ite_f hb hr
            obtain ⟨hc61, hr⟩ := chk_some hr
            obtain rfl := Option.some.inj hr
            refine WR_skip ?_
            refine then_n ?_
            refine WR_seq ?_
            refine WR_region rfl (by rintro f w ⟨_, h | h, _⟩ <;> cases h) ?_
            refine L_load_var tyRawV fb (hvar.ext e60) (by decide) ?_
            intro u hu
            obtain rfl : vo = u := hu.raw.symm
            refine L_move (rfl : _ = va) (by decide) ?_
            refine L_append (s := s60) (xs := out) (B := s0.w.heap.size) Try.underlying24 tyzB3 (rfl : _ = vo) (rfl : _ = va) (hbld.ext e60) E60.size hva hc61.1 hc61.2 (by decide) ?_
            intro vo' s61 g61
            have hD61 := at_tch g61.tch hD60 nD
            have gD61 : s61.g D = 0 := (g61.tch.g D (at_lt hD60) nD).trans gD60
            have E61 : Ext s0 s61 := Tch.trans E60 g61.tch (fun k hk => .inr (hbld.lt hk).1)
            refine L_assign (rfl : _ = vo') (by decide) ?_
            refine L_assign (rfl : _ = Value.int .i64 0) (by decide) ?_
            refine L_nil ?_
            refine then_n ?_
            refine WR_ret ?_
            refine ⟨hD61, done2 (Or.inl rfl) Try.results32 rfl rfl ⟨_, s61.putO D (.deferred none), rfl, rfl, done' _ E61 gD61, _, _, rfl, g61.bld.tch (Tch.putO gD61) (fun b hb e => ?_), Vint⟩⟩
            subst e
            rcases g61.own b hb with h | h
            · exact nD h
            · have := at_lt hD60; omega

end
end Go.Arm
namespace Go.Arm
open Go Go.RowKit Go.Proofs
noncomputable section
variable {σ : Type}
def law14_code (N : Nat) (a0 : List U8) (a1 : U8) (a2 : U8) : Option ((List (List U8)) × Int × Int × Bool) :=
  chk (inR (a1.n)) <|
  chk (16 ≠ (0 : Int)) <|
  chk (inR (1 + (Int.tmod a1.n 16))) <|
  chk (inR (a2.n)) <|
  chk (17 ≠ (0 : Int)) <|
  Option.bind (check_Divide N a0 (1 + (Int.tmod a1.n 16)) (Int.tmod a2.n 17)) fun y6 =>
  if decide (y6.2 = 0) then
  (chk (inR (1 + (Int.tmod a1.n 16) + (Int.tmod a2.n 17))) <|
  some ((y6.1, 1 + (Int.tmod a1.n 16), Int.tmod a2.n 17, decide ((y6.1.length : Int) = (1 + (Int.tmod a1.n 16) + (Int.tmod a2.n 17))))))
  else
  (some ((y6.1, 1 + (Int.tmod a1.n 16), Int.tmod a2.n 17, false)))

end
end Go.Arm
namespace Go.Arm
open Go Go.RowKit Go.Proofs
noncomputable section

theorem law14_code_okB (N : Nat) (s0 : St) (w0 : Value) (a0 : List U8) (h0 : V s0 w0 a0) (a1 : U8) (a2 : U8) (r : (List (List U8)) × Int × Int × Bool) (hr : law14_code N a0 a1 a2 = some r) :
    Calls Try.prog 10 #[w0, .int .u8 a1.n, .int .u8 a2.n] s0.w (Ret s0 fun v s => ∃ a b c d, v = .tuple #[a, b, c, d] ∧ Bld s s0.w.heap.size 22 a r.1 ∧ V s b r.2.1 ∧ V s c r.2.2.1 ∧ V s d r.2.2.2) := by
  unfold law14_code at hr
  have hE0 := Ext.refl s0
  refine Calls_of (n := 41) (args := [w0, .int .u8 a1.n, .int .u8 a2.n]) Try.func10 rfl rfl (by simp) ?_
  refine W_seq ?_
  refine W_region ?_
  refine L_assign (rfl : _ = Value.slice none 0 0) (by decide) ?_
  refine L_assign (rfl : _ = Value.int .i64 (0)) (by decide) ?_
  refine L_assign (rfl : _ = Value.int .i64 (0)) (by decide) ?_
  refine L_assign (rfl : _ = Value.bool (false)) (by decide) ?_
  refine L_nil ?_
  refine then_n ?_
  refine W_seq ?_
  refine W_region ?_
  refine L_move (rfl : _ = Value.int .u8 (a1).n) (by decide) ?_
  obtain ⟨hc1, hr⟩ := chk_some hr
  refine L_convert_i64 Try.underlying5 Try.underlying3 (rfl : _ = Value.int .u8 (a1).n) hc1 (by decide) ?_
  obtain ⟨hc2, hr⟩ := chk_some hr
  refine L_rem (rfl : _ = Value.int .i64 (a1.n)) (rfl : _ = Value.int .i64 (16)) hc2 (by decide) ?_
  obtain ⟨hc3, hr⟩ := chk_some hr
  refine L_add (rfl : _ = Value.int .i64 (1)) (rfl : _ = Value.int .i64 (Int.tmod a1.n 16)) hc3 (by decide) ?_
  refine L_move (rfl : _ = Value.int .u8 (a2).n) (by decide) ?_
  obtain ⟨hc4, hr⟩ := chk_some hr
  refine L_convert_i64 Try.underlying5 Try.underlying3 (rfl : _ = Value.int .u8 (a2).n) hc4 (by decide) ?_
  obtain ⟨hc5, hr⟩ := chk_some hr
  refine L_rem (rfl : _ = Value.int .i64 (a2.n)) (rfl : _ = Value.int .i64 (17)) hc5 (by decide) ?_
  refine L_assign (rfl : _ = Value.int .i64 (1 + (Int.tmod a1.n 16))) (by decide) ?_
  refine L_assign (rfl : _ = Value.int .i64 (Int.tmod a2.n 17)) (by decide) ?_
  refine L_nil ?_
  refine then_n ?_
  refine W_seq ?_
  refine W_region ?_
  refine L_move (rfl : _ = w0) (by decide) ?_
  refine L_move (rfl : _ = Value.int .i64 (1 + (Int.tmod a1.n 16))) (by decide) ?_
  refine L_move (rfl : _ = Value.int .i64 (Int.tmod a2.n 17)) (by decide) ?_
  obtain ⟨y6, hy7, hr⟩ := bind_some hr
  refine L_calls cal32 (args3 (rfl : _ = w0) (rfl : _ = Value.int .i64 (1 + (Int.tmod a1.n 16))) (rfl : _ = Value.int .i64 (Int.tmod a2.n 17))) (check_Divide_okB N _ _ _ h0 (1 + (Int.tmod a1.n 16)) (Int.tmod a2.n 17) y6 hy7) (by decide) ?_
  intro v8 s11 e9 hv10
  have hE12 := Tch.ext hE0 e9
  obtain ⟨v13, v14, rfl, hv15, hv16⟩ := hv10
  obtain rfl := hv16.int
  refine L_move (rfl : _ = Value.tuple #[v13, Value.int .i64 (y6.2)]) (by decide) ?_
  refine L_extract (rfl : _ = Value.tuple #[v13, Value.int .i64 (y6.2)]) (k := 0) rfl (by decide) ?_
  refine L_extract (rfl : _ = Value.tuple #[v13, Value.int .i64 (y6.2)]) (k := 1) rfl (by decide) ?_
  refine L_assign (rfl : _ = v13) (by decide) ?_
  refine L_assign (rfl : _ = Value.int .i64 (y6.2)) (by decide) ?_
  refine L_nil ?_
  refine then_n ?_
  refine W_seq ?_
  refine W_region ?_
  refine L_move (rfl : _ = v13) (by decide) ?_
  refine L_move (rfl : _ = Value.int .i64 (1 + (Int.tmod a1.n 16))) (by decide) ?_
  refine L_move (rfl : _ = Value.int .i64 (Int.tmod a2.n 17)) (by decide) ?_
  refine L_move (rfl : _ = Value.int .i64 (y6.2)) (by decide) ?_
  refine L_eql (rfl : _ = Value.int .i64 (y6.2)) (rfl : _ = Value.int .i64 (0)) (by decide) ?_
  refine L_move (rfl : _ = Value.bool (decide (y6.2 = 0))) (by decide) ?_
  rcases Bool.eq_false_or_eq_true (decide (y6.2 = 0)) with hb17 | hb17
  · have hr := ite_t hb17 hr
    refine L_gt (e := 33) (by rfl) (by decide) (rfl : _ = Value.bool (decide (y6.2 = 0))) hb17 ?_
    refine L_move (rfl : _ = v13) (by decide) ?_
    refine L_gt (e := 33) (by rfl) (by decide) (rfl : _ = Value.bool (decide (y6.2 = 0))) hb17 ?_
    refine L_len Try.underlying24 (rfl : _ = v13) hv15.toV (by decide) ?_
    refine L_gt (e := 33) (by rfl) (by decide) (rfl : _ = Value.bool (decide (y6.2 = 0))) hb17 ?_
    refine L_move (rfl : _ = Value.int .i64 (1 + (Int.tmod a1.n 16))) (by decide) ?_
    refine L_gt (e := 33) (by rfl) (by decide) (rfl : _ = Value.bool (decide (y6.2 = 0))) hb17 ?_
    refine L_move (rfl : _ = Value.int .i64 (Int.tmod a2.n 17)) (by decide) ?_
    refine L_gt (e := 33) (by rfl) (by decide) (rfl : _ = Value.bool (decide (y6.2 = 0))) hb17 ?_
    obtain ⟨hc18, hr⟩ := chk_some hr
    refine L_add (rfl : _ = Value.int .i64 (1 + (Int.tmod a1.n 16))) (rfl : _ = Value.int .i64 (Int.tmod a2.n 17)) hc18 (by decide) ?_
    refine L_gt (e := 33) (by rfl) (by decide) (rfl : _ = Value.bool (decide (y6.2 = 0))) hb17 ?_
    refine L_eql (rfl : _ = Value.int .i64 ((y6.1.length : Int))) (rfl : _ = Value.int .i64 (1 + (Int.tmod a1.n 16) + (Int.tmod a2.n 17))) (by decide) ?_
    refine L_pick_t (rfl : _ = Value.bool (decide (y6.2 = 0))) hb17 (rfl : _ = Value.bool (decide ((y6.1.length : Int) = (1 + (Int.tmod a1.n 16) + (Int.tmod a2.n 17))))) (by decide) ?_
    refine L_assign (rfl : _ = v13) (by decide) ?_
    refine L_assign (rfl : _ = Value.int .i64 (1 + (Int.tmod a1.n 16))) (by decide) ?_
    refine L_assign (rfl : _ = Value.int .i64 (Int.tmod a2.n 17)) (by decide) ?_
    refine L_assign (rfl : _ = Value.bool (decide ((y6.1.length : Int) = (1 + (Int.tmod a1.n 16) + (Int.tmod a2.n 17))))) (by decide) ?_
    refine L_nil ?_
    refine then_n ?_
    refine W_ret ?_
    obtain rfl := Option.some.inj hr
    exact done4 (Or.inl rfl) Try.results10 rfl rfl rfl rfl ⟨_, _, rfl, rfl, hE12, _, _, _, _, rfl, hv15, Vint, Vint, Vbool⟩
  · have hr := ite_f hb17 hr
    refine L_gf (e := 33) (by rfl) (by decide) (rfl : _ = Value.bool (decide (y6.2 = 0))) hb17 (by decide) ?_
    refine L_gf (e := 33) (by rfl) (by decide) (rfl : _ = Value.bool (decide (y6.2 = 0))) hb17 (by decide) ?_
    refine L_gf (e := 33) (by rfl) (by decide) (rfl : _ = Value.bool (decide (y6.2 = 0))) hb17 (by decide) ?_
    refine L_gf (e := 33) (by rfl) (by decide) (rfl : _ = Value.bool (decide (y6.2 = 0))) hb17 (by decide) ?_
    refine L_gf (e := 33) (by rfl) (by decide) (rfl : _ = Value.bool (decide (y6.2 = 0))) hb17 (by decide) ?_
    refine L_gf (e := 33) (by rfl) (by decide) (rfl : _ = Value.bool (decide (y6.2 = 0))) hb17 (by decide) ?_
    refine L_pick_f (rfl : _ = Value.bool (decide (y6.2 = 0))) hb17 (rfl : _ = Value.bool (false)) (by decide) ?_
    refine L_assign (rfl : _ = v13) (by decide) ?_
    refine L_assign (rfl : _ = Value.int .i64 (1 + (Int.tmod a1.n 16))) (by decide) ?_
    refine L_assign (rfl : _ = Value.int .i64 (Int.tmod a2.n 17)) (by decide) ?_
    refine L_assign (rfl : _ = Value.bool (false)) (by decide) ?_
    refine L_nil ?_
    refine then_n ?_
    refine W_ret ?_
    obtain rfl := Option.some.inj hr
    exact done4 (Or.inl rfl) Try.results10 rfl rfl rfl rfl ⟨_, _, rfl, rfl, hE12, _, _, _, _, rfl, hv15, Vint, Vint, Vbool⟩

def law14_CheckErasures_l1 (N : Nat) (y9 : (List (List U8)) × Int × Int × Bool) (y26 : (List Bool)) : Nat → Int → Int → (List Bool) → Option ((List Bool))
  | 0, _, _, _ => none
  | m + 1, x37, x38, x36 =>
  if decide (x38 < ((y26.length : Nat) : Int)) then
  (Option.bind (Option.bind (idx x36 x38) fun y55 =>
  if y55 then
  (some (decide (x37 < y9.2.1)))
  else
  (some (false))) fun o52 => match o52 with
  | x51 =>
  (if x51 then
  (chk (inR (y9.2.1 - 1)) <|
  Option.bind (idx x36 x38) fun _ =>
  chk (inR (x37 + 1)) <|
  chk (inR (x38 + 1)) <|
  law14_CheckErasures_l1 N y9 y26 m (x37 + 1) (x38 + 1) (x36.set (x38).toNat (decide (x37 < (y9.2.1 - 1)))))
  else
  (Option.bind (idx x36 x38) fun _ =>
  chk (inR (x38 + 1)) <|
  law14_CheckErasures_l1 N y9 y26 m x37 (x38 + 1) (x36.set (x38).toNat false))))
  else
  (some (x36))
def law14_CheckErasures (N : Nat) (a0 : List U8) (a1 : U8) (a2 : U8) (a3 : List U8) (a4 : U8) : Option (Bool) :=
  if decide (1000 < (a0.length : Int)) then
  (Option.bind (law14_works N ) fun y2 =>
  some (y2))
  else
  (Option.bind (law14_code N a0 a1 a2) fun y9 =>
  if !y9.2.2.2 then
  (some (false))
  else
  (chk (inR (y9.2.1 + y9.2.2.1)) <|
  Option.bind (law14_lost N (y9.2.1 + y9.2.2.1) y9.2.2.1 a3) fun y26 =>
  Option.bind (law14_spoiled N y9.1 y26 a4) fun y33 =>
  Option.bind (check_Repair N y33 y26 y9.2.1) fun y40 =>
  Option.bind (check_Unite N y33 y26 y9.2.1) fun y51 =>
  if !decide (y40.2 = 0) then
  (some (false))
  else
  (if !decide (y51.2 = 0) then
  (some (false))
  else
  (Option.bind (law14_equal N y40.1 y9.1) fun y66 =>
  if !y66 then
  (some (false))
  else
  (if !decide ((txtOf y51.1) = (txtOf a0)) then
  (some (false))
  else
  (
  Option.bind (law14_CheckErasures_l1 N y9 y26 N 0 0 y26) fun o40 => match o40 with
  | x39 =>
  (Option.bind (check_Repair N y33 x39 y9.2.1) fun y97 =>
  if decide (y97.2 = 19) then
  (Option.bind (law14_works N ) fun y111 =>
  some (y111))
  else
  (some (false)))))))))

end
end Go.Arm
namespace Go.Arm
open Go Go.RowKit Go.Proofs
noncomputable section

def law14_CheckFinds (N : Nat) (a0 : List U8) (a1 : U8) (a2 : U8) (a3 : U8) (a4 : U8) (a5 : U8) : Option (Bool) :=
  if decide (300 < (a0.length : Int)) then
  (Option.bind (law14_works N ) fun y2 =>
  some (y2))
  else
  (Option.bind (law14_code N a0 a1 a2) fun y9 =>
  if !y9.2.2.2 then
  (some (false))
  else
  (Option.bind (check_Blame N y9.1 y9.2.1) fun y25 =>
  Option.bind (if !decide (y25.1 = (-1)) then
  (some (true))
  else
  (some (!decide (y25.2 = 0)))) fun o37 => match o37 with
  | x36 =>
  (if x36 then
  (some (false))
  else
  (chk (inR (a3.n)) <|
  chk ((y9.1.length : Int) ≠ (0 : Int)) <|
  Option.bind (idx y9.1 (Int.tmod a3.n (y9.1.length : Int))) fun y54 =>
  chk ((([] : List U8).length + y54.length) * 1 ≤ 140737488355328 ∧ ([] : List U8).length + y54.length ≤ maxLen) <|
  if decide (((([] : List U8) ++ y54).length : Int) = 0) then
  (Option.bind (law14_works N ) fun y76 =>
  some (y76))
  else if decide (a5.n = (⟨0⟩ : U8).n) then
  (Option.bind (law14_works N ) fun y76 =>
  some (y76))
  else
  chk (inR (a4.n)) <|
  chk (((([] : List U8) ++ y54).length : Int) ≠ (0 : Int)) <|
  Option.bind (idx (([] : List U8) ++ y54) (Int.tmod a4.n ((([] : List U8) ++ y54).length : Int))) fun y78 =>
  Option.bind (check_Blame N (y9.1.set (Int.tmod a3.n (y9.1.length : Int)).toNat ((([] : List U8) ++ y54).set (Int.tmod a4.n ((([] : List U8) ++ y54).length : Int)).toNat (⟨xorK .u8 y78.n a5.n⟩ : U8))) y9.2.1) fun y48 =>
  Option.bind (if decide (y9.2.2.1 = 0) then
  (if decide (y48.1 = (-1)) then
  (if decide (y48.2 = 0) then
  (Option.bind (law14_works N ) fun y65 =>
  some (.inr (y65)))
  else
  (some (.inr (false))))
  else
  (some (.inr (false))))
  else
  (if decide (y9.2.2.1 = 1) then
  (if decide (y48.1 = 0) then
  (if decide (y48.2 = 20) then
  (Option.bind (law14_works N ) fun y75 =>
  some (.inr (y75)))
  else
  (some (.inr (false))))
  else
  (some (.inr (false))))
  else
  (some (Sum.inl ())))) fun o59 => match o59 with
  | .inl () =>
  (if decide (y48.1 = (Int.tmod a3.n (y9.1.length : Int))) then
  (if decide (y48.2 = 0) then
  (Option.bind (law14_works N ) fun y88 =>
  some (y88))
  else
  (some (false)))
  else
  (some (false)))
  | .inr r => some r))))

theorem law14_CheckFinds_ok (N : Nat) (s0 : St) (w0 : Value) (a0 : List U8) (h0 : V s0 w0 a0) (a1 : U8) (a2 : U8) (a3 : U8) (a4 : U8) (a5 : U8) (r : Bool) (hr : law14_CheckFinds N a0 a1 a2 a3 a4 a5 = some r) :
    Calls Try.prog 8 #[w0, .int .u8 a1.n, .int .u8 a2.n, .int .u8 a3.n, .int .u8 a4.n, .int .u8 a5.n] s0.w (Ret s0 fun v s => V s v r) := by
  unfold law14_CheckFinds at hr
  have hE0 := Ext.refl s0
  refine Calls_of (n := 123) (args := [w0, .int .u8 a1.n, .int .u8 a2.n, .int .u8 a3.n, .int .u8 a4.n, .int .u8 a5.n]) Try.func8 rfl rfl (by simp) ?_
  refine W_seq ?_
  refine W_region ?_
  refine L_assign (rfl : _ = Value.bool (false)) (by decide) ?_
  refine L_nil ?_
  refine then_n ?_
  refine W_seq ?_
  refine W_seq ?_
  refine W_region ?_
  refine L_move (rfl : _ = w0) (by decide) ?_
  refine L_len Try.underlying22 (rfl : _ = w0) h0 (by decide) ?_
  refine L_gtr (rfl : _ = Value.int .i64 ((a0.length : Int))) (rfl : _ = Value.int .i64 (300)) (by decide) ?_
  refine L_nil ?_
  refine then_n ?_
  refine W_cond _ (rfl : _ = Value.bool (decide (300 < (a0.length : Int)))) (fun hb1 => ?_) (fun hb1 => ?_)
  · have hr := ite_t hb1 hr
    refine W_seq ?_
    refine W_region ?_
    obtain ⟨y2, hy3, hr⟩ := bind_some hr
    refine L_calls cal9 (args0) (law14_works_ok N _  y2 hy3) (by decide) ?_
    intro v4 s7 e5 hv6
    have hE8 := Tch.ext hE0 e5
    obtain rfl := hv6.bool
    refine L_assign (rfl : _ = Value.bool (y2)) (by decide) ?_
    refine L_nil ?_
    refine then_n ?_
    refine W_ret ?_
    refine then_r ?_
    obtain rfl := Option.some.inj hr
    exact done1 (Or.inl rfl) Try.results8 rfl ⟨_, _, rfl, rfl, hE8, Vbool⟩
  · have hr := ite_f hb1 hr
    refine W_skip ?_
    refine then_n ?_
    refine W_seq ?_
    refine W_region ?_
    refine L_move (rfl : _ = w0) (by decide) ?_
    refine L_move (rfl : _ = Value.int .u8 (a1).n) (by decide) ?_
    refine L_move (rfl : _ = Value.int .u8 (a2).n) (by decide) ?_
    obtain ⟨y9, hy10, hr⟩ := bind_some hr
    refine L_calls cal10 (args3 (rfl : _ = w0) (rfl : _ = Value.int .u8 (a1).n) (rfl : _ = Value.int .u8 (a2).n)) (law14_code_okB N _ _ _ h0 a1 a2 y9 hy10) (by decide) ?_
    intro v11 s14 e12 hv13
    have hE15 := Tch.ext hE0 e12
    obtain ⟨v16, v17, v18, v19, rfl, hv20, hv21, hv22, hv23⟩ := hv13
    have hbl := hv20
    have hv20 := hv20.toV
    obtain rfl := hv21.int
    obtain rfl := hv22.int
    obtain rfl := hv23.bool
    refine L_move (rfl : _ = Value.tuple #[v16, Value.int .i64 (y9.2.1), Value.int .i64 (y9.2.2.1), Value.bool (y9.2.2.2)]) (by decide) ?_
    refine L_extract (rfl : _ = Value.tuple #[v16, Value.int .i64 (y9.2.1), Value.int .i64 (y9.2.2.1), Value.bool (y9.2.2.2)]) (k := 0) rfl (by decide) ?_
    refine L_extract (rfl : _ = Value.tuple #[v16, Value.int .i64 (y9.2.1), Value.int .i64 (y9.2.2.1), Value.bool (y9.2.2.2)]) (k := 1) rfl (by decide) ?_
    refine L_extract (rfl : _ = Value.tuple #[v16, Value.int .i64 (y9.2.1), Value.int .i64 (y9.2.2.1), Value.bool (y9.2.2.2)]) (k := 2) rfl (by decide) ?_
    refine L_extract (rfl : _ = Value.tuple #[v16, Value.int .i64 (y9.2.1), Value.int .i64 (y9.2.2.1), Value.bool (y9.2.2.2)]) (k := 3) rfl (by decide) ?_
    refine L_assign (rfl : _ = v16) (by decide) ?_
    refine L_assign (rfl : _ = Value.int .i64 (y9.2.1)) (by decide) ?_
    refine L_assign (rfl : _ = Value.int .i64 (y9.2.2.1)) (by decide) ?_
    refine L_assign (rfl : _ = Value.bool (y9.2.2.2)) (by decide) ?_
    refine L_nil ?_
    refine then_n ?_
    refine W_seq ?_
    refine W_seq ?_
    refine W_region ?_
    refine L_move (rfl : _ = Value.bool (y9.2.2.2)) (by decide) ?_
    refine L_not (rfl : _ = Value.bool (y9.2.2.2)) (by decide) ?_
    refine L_nil ?_
    refine then_n ?_
    refine W_cond _ (rfl : _ = Value.bool (!y9.2.2.2)) (fun hb24 => ?_) (fun hb24 => ?_)
    · have hr := ite_t hb24 hr
      refine W_seq ?_
      refine W_region ?_
      refine L_assign (rfl : _ = Value.bool (false)) (by decide) ?_
      refine L_nil ?_
      refine then_n ?_
      refine W_ret ?_
      refine then_r ?_
      obtain rfl := Option.some.inj hr
      exact done1 (Or.inl rfl) Try.results8 rfl ⟨_, _, rfl, rfl, hE15, Vbool⟩
    · have hr := ite_f hb24 hr
      refine W_skip ?_
      refine then_n ?_
      refine W_seq ?_
      refine W_region ?_
      refine L_move (rfl : _ = v16) (by decide) ?_
      refine L_move (rfl : _ = Value.int .i64 (y9.2.1)) (by decide) ?_
      obtain ⟨y25, hy26, hr⟩ := bind_some hr
      refine L_calls cal30 (args2 (rfl : _ = v16) (rfl : _ = Value.int .i64 (y9.2.1))) (check_Blame_ok N _ _ _ hv20 y9.2.1 y25 hy26) (by decide) ?_
      intro v27 s30 e28 hv29
      have hE31 := Tch.ext hE15 e28
      obtain ⟨v32, v33, rfl, hv34, hv35⟩ := hv29
      obtain rfl := hv34.int
      obtain rfl := hv35.int
      refine L_move (rfl : _ = Value.tuple #[Value.int .i64 (y25.1), Value.int .i64 (y25.2)]) (by decide) ?_
      refine L_extract (rfl : _ = Value.tuple #[Value.int .i64 (y25.1), Value.int .i64 (y25.2)]) (k := 0) rfl (by decide) ?_
      refine L_extract (rfl : _ = Value.tuple #[Value.int .i64 (y25.1), Value.int .i64 (y25.2)]) (k := 1) rfl (by decide) ?_
      refine L_assign (rfl : _ = Value.int .i64 (y25.1)) (by decide) ?_
      refine L_assign (rfl : _ = Value.int .i64 (y25.2)) (by decide) ?_
      refine L_nil ?_
      refine then_n ?_
      refine W_seq ?_
      obtain ⟨o37, ho38, hq39⟩ := bind_some hr
      refine W_seq_cut (fun f w => ∃ (s : St) (x36 : Bool), s.w = w ∧ Ext s0 s ∧ Ext s14 s ∧ Le s30 s ∧ x36 = o37 ∧ f 48 = Value.bool x36 ∧ f 3 = Value.int .u8 (a3).n ∧ f 13 = v16 ∧ f 14 = Value.int .i64 (y9.2.1) ∧ f 15 = Value.int .i64 (y9.2.2.1) ∧ f 4 = Value.int .u8 (a4).n ∧ f 5 = Value.int .u8 (a5).n) ?_ ?_
      · have hr := ho38
        refine W_region ?_
        refine L_move (rfl : _ = Value.int .i64 (y25.1)) (by decide) ?_
        refine L_neq (rfl : _ = Value.int .i64 (y25.1)) (rfl : _ = Value.int .i64 (-1)) (by decide) ?_
        refine L_move (rfl : _ = Value.bool (!decide (y25.1 = (-1)))) (by decide) ?_
        rcases Bool.eq_false_or_eq_true (!decide (y25.1 = (-1))) with hb40 | hb40
        · have hr := ite_t hb40 hr
          refine L_gf (e := 45) (by rfl) (by decide) (rfl : _ = Value.bool (!decide (y25.1 = (-1)))) hb40 (by decide) ?_
          refine L_gf (e := 45) (by rfl) (by decide) (rfl : _ = Value.bool (!decide (y25.1 = (-1)))) hb40 (by decide) ?_
          refine L_pick_t (rfl : _ = Value.bool (!decide (y25.1 = (-1)))) hb40 (rfl : _ = Value.bool (true)) (by decide) ?_
          refine L_nil ?_
          exact then_n ⟨s30, true, rfl, hE31, e28, (Le.refl _), Option.some.inj hr, rfl, rfl, rfl, rfl, rfl, rfl, rfl⟩
        · have hr := ite_f hb40 hr
          refine L_gt (e := 45) (by rfl) (by decide) (rfl : _ = Value.bool (!decide (y25.1 = (-1)))) hb40 ?_
          refine L_move (rfl : _ = Value.int .i64 (y25.2)) (by decide) ?_
          refine L_gt (e := 45) (by rfl) (by decide) (rfl : _ = Value.bool (!decide (y25.1 = (-1)))) hb40 ?_
          refine L_neq (rfl : _ = Value.int .i64 (y25.2)) (rfl : _ = Value.int .i64 (0)) (by decide) ?_
          refine L_pick_f (rfl : _ = Value.bool (!decide (y25.1 = (-1)))) hb40 (rfl : _ = Value.bool (!decide (y25.2 = 0))) (by decide) ?_
          refine L_nil ?_
          exact then_n ⟨s30, (!decide (y25.2 = 0)), rfl, hE31, e28, (Le.refl _), Option.some.inj hr, rfl, rfl, rfl, rfl, rfl, rfl, rfl⟩
      · rintro f97 w98 ⟨s41, x36, rfl, hE43, hTOS, l42, ho38, g44_48, g44_3, g44_13, g44_14, g44_15, g44_4, g44_5⟩
        subst ho38
        have hr := hq39
        try dsimp only at hr
        refine W_cond _ g44_48 (fun hb45 => ?_) (fun hb45 => ?_)
        · have hr := ite_t hb45 hr
          refine W_seq ?_
          refine W_region ?_
          refine L_assign (rfl : _ = Value.bool (false)) (by decide) ?_
          refine L_nil ?_
          refine then_n ?_
          refine W_ret ?_
          refine then_r ?_
          obtain rfl := Option.some.inj hr
          exact done1 (Or.inl rfl) Try.results8 rfl ⟨_, _, rfl, rfl, hE43, Vbool⟩
        · have hr := ite_f hb45 hr
          refine W_skip ?_
          refine then_n ?_
          refine W_seq ?_
          refine W_region ?_
          refine L_move g44_3 (by decide) ?_
          obtain ⟨hc46, hr⟩ := chk_some hr
          refine L_convert_i64 Try.underlying5 Try.underlying3 (rfl : _ = Value.int .u8 (a3).n) hc46 (by decide) ?_
          refine L_move g44_13 (by decide) ?_
          refine L_len Try.underlying24 (rfl : _ = v16) (hv20.mono (e28.le.trans l42)) (by decide) ?_
          obtain ⟨hc47, hr⟩ := chk_some hr
          refine L_rem (rfl : _ = Value.int .i64 (a3.n)) (rfl : _ = Value.int .i64 ((y9.1.length : Int))) hc47 (by decide) ?_
          refine L_assign (rfl : _ = Value.int .i64 (Int.tmod a3.n (y9.1.length : Int))) (by decide) ?_
          refine L_nil ?_
          refine then_n ?_
          refine W_seq ?_
          refine W_region ?_
          refine L_buildSlice (s := s41) (xs := ([] : List U8)) Try.underlying22 tyz5 Parts_nil Vs.nil rfl (by decide) (by decide) ?_
          intro s52 v49 e48 hb50 _
          refine L_move g44_13 (by decide) ?_
          refine L_move (rfl : _ = Value.int .i64 (Int.tmod a3.n (y9.1.length : Int))) (by decide) ?_
          obtain ⟨y54, hy55, hr⟩ := bind_some hr
          refine L_index Try.underlying24 ty22.inf (rfl : _ = v16) ((hv20.mono (e28.le.trans l42)).mono e48.le) (rfl : _ = Value.int .i64 (Int.tmod a3.n (y9.1.length : Int))) hy55 (by decide) ?_
          intro p56 hp57
          refine L_load ty22 (rfl : _ = p56) hp57 (by decide) ?_
          intro v58 hv59
          obtain ⟨hc60, hr⟩ := chk_some hr
          refine L_append (s := s52) (xs := ([] : List U8)) (B := s41.w.heap.size) Try.underlying22 tyz5 (rfl : _ = v49) (rfl : _ = v58) hb50 e48.size hv59 hc60.1 hc60.2 (by decide) ?_
          intro v61 s63 g62
          have hbC := g62.bld
          have E63 : Ext s41 s63 := Tch.trans e48 g62.tch (fun k hk => .inr (hb50.lt hk).1)
          have hE63 := hE43.trans E63
          refine L_assign (rfl : _ = v61) (by decide) ?_
          refine L_nil ?_
          refine then_n ?_
          refine W_seq ?_
          refine W_seq ?_
          refine W_region ?_
          refine L_move (rfl : _ = v61) (by decide) ?_
          refine L_len Try.underlying22 (rfl : _ = v61) hbC.toV (by decide) ?_
          refine L_eql (rfl : _ = Value.int .i64 (((([] : List U8) ++ y54).length : Int))) (rfl : _ = Value.int .i64 (0)) (by decide) ?_
          refine L_move (rfl : _ = Value.bool (decide (((([] : List U8) ++ y54).length : Int) = 0))) (by decide) ?_
          rcases Bool.eq_false_or_eq_true (decide (((([] : List U8) ++ y54).length : Int) = 0)) with hb70 | hb70
          · have hr := ite_t hb70 hr
            refine L_gf (e := 63) (by rfl) (by decide) (rfl : _ = Value.bool (decide (((([] : List U8) ++ y54).length : Int) = 0))) hb70 (by decide) ?_
            refine L_gf (e := 63) (by rfl) (by decide) (rfl : _ = Value.bool (decide (((([] : List U8) ++ y54).length : Int) = 0))) hb70 (by decide) ?_
            refine L_pick_t (rfl : _ = Value.bool (decide (((([] : List U8) ++ y54).length : Int) = 0))) hb70 (rfl : _ = Value.bool (true)) (by decide) ?_
            refine L_nil ?_
            refine then_n ?_
            refine W_cond _ (rfl : _ = Value.bool (true)) (fun _ => ?_) (fun h => absurd (h.symm.trans rfl) (by decide))
            refine W_seq ?_
            refine W_region ?_
            obtain ⟨y76, hy77, hr⟩ := bind_some hr
            refine L_calls (s := s63) cal9 (args0) (law14_works_ok N _ y76 hy77) (by decide) ?_
            intro v78 s81 e79 hv80
            obtain rfl := hv80.bool
            refine L_assign (rfl : _ = Value.bool (y76)) (by decide) ?_
            refine L_nil ?_
            refine then_n ?_
            refine W_ret ?_
            refine then_r ?_
            obtain rfl := Option.some.inj hr
            exact done1 (Or.inl rfl) Try.results8 rfl ⟨_, _, rfl, rfl, hE63.trans e79, Vbool⟩
          have hr := ite_f hb70 hr
          refine L_gt (e := 63) (by rfl) (by decide) (rfl : _ = Value.bool (decide (((([] : List U8) ++ y54).length : Int) = 0))) hb70 ?_
          refine L_move g44_5 (by decide) ?_
          refine L_gt (e := 63) (by rfl) (by decide) (rfl : _ = Value.bool (decide (((([] : List U8) ++ y54).length : Int) = 0))) hb70 ?_
          refine L_eql (rfl : _ = Value.int .u8 (a5).n) (rfl : _ = Value.int .u8 ((⟨0⟩ : U8)).n) (by decide) ?_
          refine L_pick_f (rfl : _ = Value.bool (decide (((([] : List U8) ++ y54).length : Int) = 0))) hb70 (rfl : _ = Value.bool (decide (a5.n = (⟨0⟩ : U8).n))) (by decide) ?_
          refine L_nil ?_
          refine then_n ?_
          refine W_cond _ (rfl : _ = Value.bool (decide (a5.n = (⟨0⟩ : U8).n))) (fun hb71 => ?_) (fun hb71 => ?_)
          · have hr := ite_t hb71 hr
            refine W_seq ?_
            refine W_region ?_
            obtain ⟨y76, hy77, hr⟩ := bind_some hr
            refine L_calls (s := s63) cal9 (args0) (law14_works_ok N _ y76 hy77) (by decide) ?_
            intro v78 s81 e79 hv80
            obtain rfl := hv80.bool
            refine L_assign (rfl : _ = Value.bool (y76)) (by decide) ?_
            refine L_nil ?_
            refine then_n ?_
            refine W_ret ?_
            refine then_r ?_
            obtain rfl := Option.some.inj hr
            exact done1 (Or.inl rfl) Try.results8 rfl ⟨_, _, rfl, rfl, hE63.trans e79, Vbool⟩
          have hr := ite_f hb71 hr
          refine W_skip ?_
          refine then_n ?_
          obtain ⟨sC, eC, EC, hAC⟩ := Bld.thaw flatU8 E63 hbC
          rw [← eC]
          refine W_seq ?_
          refine W_region ?_
          refine L_move (rfl : _ = v61) (by decide) ?_
          refine L_move g44_4 (by decide) ?_
          obtain ⟨hc73, hr⟩ := chk_some hr
          refine L_convert_i64 Try.underlying5 Try.underlying3 (rfl : _ = Value.int .u8 (a4).n) hc73 (by decide) ?_
          refine L_move (rfl : _ = v61) (by decide) ?_
          refine L_lenS Try.underlying22 (rfl : _ = v61) hAC (by decide) ?_
          obtain ⟨hc74, hr⟩ := chk_some hr
          refine L_rem (rfl : _ = Value.int .i64 (a4.n)) (rfl : _ = Value.int .i64 (((([] : List U8) ++ y54).length : Int))) hc74 (by decide) ?_
          obtain ⟨y78, hy79, hr⟩ := bind_some hr
          refine L_indexS Try.underlying22 ty5.inf (rfl : _ = v61) (rfl : _ = Value.int .i64 (Int.tmod a4.n ((([] : List U8) ++ y54).length : Int))) hAC hy79 (by decide) ?_
          refine L_loadS ty5 (rfl : _ = elemP v61 (Int.tmod a4.n ((([] : List U8) ++ y54).length : Int)) 1 0) hAC hy79 rfl (by decide) ?_
          intro u80 hu80
          obtain rfl := hu80.u8
          refine L_move g44_5 (by decide) ?_
          refine L_xorK (rfl : _ = Value.int .u8 (y78).n) (rfl : _ = Value.int .u8 (a5).n) (by decide) ?_
          refine L_indexS Try.underlying22 ty5.inf (rfl : _ = v61) (rfl : _ = Value.int .i64 (Int.tmod a4.n ((([] : List U8) ++ y54).length : Int))) hAC hy79 (by decide) ?_
          refine L_storeS ty5 (rfl : _ = elemP v61 (Int.tmod a4.n ((([] : List U8) ++ y54).length : Int)) 1 0) (rfl : _ = Value.int .u8 ((⟨xorK .u8 y78.n a5.n⟩ : U8)).n) Vu8 hAC hy79 rfl ?_
          intro sD tD hAD
          refine L_nil ?_
          refine then_n ?_
          obtain ⟨sF, eF, tF, hvF⟩ := hAD.freeze
          have ED : Ext s41 sD := Tch.trans EC tD (fun k hk => .inr (hAC.lt hk).1)
          have EF : Ext s41 sF := Tch.trans ED tF (fun k hk => .inr (hAD.lt hk).1)
          have hblF := hbl.ext (hTOS.trans EF)
          obtain ⟨sG, eG, EG, hAl, hvG⟩ := thaw_rows (hE43.trans EF) hblF hvF
          rw [← eF, ← eG]
          refine W_seq ?_
          refine W_region ?_
          refine L_move g44_13 (by decide) ?_
          refine L_move (rfl : _ = Value.int .i64 (Int.tmod a3.n (y9.1.length : Int))) (by decide) ?_
          refine L_move (rfl : _ = v61) (by decide) ?_
          refine L_indexS Try.underlying24 ty22.inf (rfl : _ = v16) (rfl : _ = Value.int .i64 (Int.tmod a3.n (y9.1.length : Int))) hAl hy55 (by decide) ?_
          refine L_storeS ty22 (rfl : _ = elemP v16 (Int.tmod a3.n (y9.1.length : Int)) 1 0) (rfl : _ = v61) hvG hAl hy55 rfl ?_
          intro sH tH hAH
          refine L_nil ?_
          refine then_n ?_
          obtain ⟨sL, eL, tL, hvL2⟩ := hAH.freeze
          have EH : Ext s0 sH := Tch.trans EG tH (fun k hk => .inr (hAl.lt hk).1)
          have hEL : Ext s0 sL := Tch.trans EH tL (fun k hk => .inr (hAH.lt hk).1)
          rw [← eL]
          refine W_seq ?_
          refine W_region ?_
          refine L_move g44_13 (by decide) ?_
          refine L_move g44_14 (by decide) ?_
          obtain ⟨y48, hy49, hr⟩ := bind_some hr
          refine L_calls cal30 (args2 (rfl : _ = v16) (rfl : _ = Value.int .i64 (y9.2.1))) (check_Blame_ok N _ _ _ hvL2 y9.2.1 y48 hy49) (by decide) ?_
          intro v50 s53 e51 hv52
          have hE54 := Tch.ext hEL e51
          obtain ⟨v55, v56, rfl, hv57, hv58⟩ := hv52
          obtain rfl := hv57.int
          obtain rfl := hv58.int
          refine L_move (rfl : _ = Value.tuple #[Value.int .i64 (y48.1), Value.int .i64 (y48.2)]) (by decide) ?_
          refine L_extract (rfl : _ = Value.tuple #[Value.int .i64 (y48.1), Value.int .i64 (y48.2)]) (k := 0) rfl (by decide) ?_
          refine L_extract (rfl : _ = Value.tuple #[Value.int .i64 (y48.1), Value.int .i64 (y48.2)]) (k := 1) rfl (by decide) ?_
          refine L_assign (rfl : _ = Value.int .i64 (y48.1)) (by decide) ?_
          refine L_assign (rfl : _ = Value.int .i64 (y48.2)) (by decide) ?_
          refine L_nil ?_
          refine then_n ?_
          obtain ⟨o59, ho60, hq61⟩ := bind_some hr
          refine W_seq_cut (fun f w => ∃ (s : St), s.w = w ∧ Ext s0 s ∧ Le s53 s ∧ Sum.inl () = o59 ∧ f 18 = Value.int .i64 (y48.2) ∧ f 19 = Value.int .i64 (Int.tmod a3.n (y9.1.length : Int)) ∧ f 21 = Value.int .i64 (y48.1)) ?_ ?_
          · have hr := ho60
            refine W_block ?_
            refine W_seq ?_
            refine W_region ?_
            refine L_move g44_15 (by decide) ?_
            refine L_eql (rfl : _ = Value.int .i64 (y9.2.2.1)) (rfl : _ = Value.int .i64 (0)) (by decide) ?_
            refine L_assign (rfl : _ = Value.bool (decide (y9.2.2.1 = 0))) (by decide) ?_
            refine L_nil ?_
            refine then_n ?_
            refine W_cond _ (rfl : _ = Value.bool (decide (y9.2.2.1 = 0))) (fun hb62 => ?_) (fun hb62 => ?_)
            · have hr := ite_t hb62 hr
              refine W_seq ?_
              refine W_region ?_
              refine L_move (rfl : _ = Value.int .i64 (y48.1)) (by decide) ?_
              refine L_eql (rfl : _ = Value.int .i64 (y48.1)) (rfl : _ = Value.int .i64 (-1)) (by decide) ?_
              refine L_move (rfl : _ = Value.bool (decide (y48.1 = (-1)))) (by decide) ?_
              rcases Bool.eq_false_or_eq_true (decide (y48.1 = (-1))) with hb63 | hb63
              · have hr := ite_t hb63 hr
                refine L_gt (e := 94) (by rfl) (by decide) (rfl : _ = Value.bool (decide (y48.1 = (-1)))) hb63 ?_
                refine L_move (rfl : _ = Value.int .i64 (y48.2)) (by decide) ?_
                refine L_gt (e := 94) (by rfl) (by decide) (rfl : _ = Value.bool (decide (y48.1 = (-1)))) hb63 ?_
                refine L_eql (rfl : _ = Value.int .i64 (y48.2)) (rfl : _ = Value.int .i64 (0)) (by decide) ?_
                refine L_pick_t (rfl : _ = Value.bool (decide (y48.1 = (-1)))) hb63 (rfl : _ = Value.bool (decide (y48.2 = 0))) (by decide) ?_
                refine L_move (rfl : _ = Value.bool (decide (y48.2 = 0))) (by decide) ?_
                rcases Bool.eq_false_or_eq_true (decide (y48.2 = 0)) with hb64 | hb64
                · have hr := ite_t hb64 hr
                  refine L_gt (e := 98) (by rfl) (by decide) (rfl : _ = Value.bool (decide (y48.2 = 0))) hb64 ?_
                  obtain ⟨y65, hy66, hr⟩ := bind_some hr
                  refine L_calls cal9 (args0) (law14_works_ok N _  y65 hy66) (by decide) ?_
                  intro v67 s70 e68 hv69
                  have hE71 := Tch.ext hE54 e68
                  obtain rfl := hv69.bool
                  refine L_pick_t (rfl : _ = Value.bool (decide (y48.2 = 0))) hb64 (rfl : _ = Value.bool (y65)) (by decide) ?_
                  refine L_assign (rfl : _ = Value.bool (y65)) (by decide) ?_
                  refine L_nil ?_
                  refine then_n ?_
                  refine W_ret ?_
                  refine block_r ?_
                  obtain rfl := Option.some.inj hr
                  have hr := hq61
                  try dsimp only at hr
                  refine then_r ?_
                  obtain rfl := Option.some.inj hr
                  exact done1 (Or.inl rfl) Try.results8 rfl ⟨_, _, rfl, rfl, hE71, Vbool⟩
                · have hr := ite_f hb64 hr
                  refine L_gf (e := 98) (by rfl) (by decide) (rfl : _ = Value.bool (decide (y48.2 = 0))) hb64 (by decide) ?_
                  refine L_pick_f (rfl : _ = Value.bool (decide (y48.2 = 0))) hb64 (rfl : _ = Value.bool (false)) (by decide) ?_
                  refine L_assign (rfl : _ = Value.bool (false)) (by decide) ?_
                  refine L_nil ?_
                  refine then_n ?_
                  refine W_ret ?_
                  refine block_r ?_
                  obtain rfl := Option.some.inj hr
                  have hr := hq61
                  try dsimp only at hr
                  refine then_r ?_
                  obtain rfl := Option.some.inj hr
                  exact done1 (Or.inl rfl) Try.results8 rfl ⟨_, _, rfl, rfl, hE54, Vbool⟩
              · have hr := ite_f hb63 hr
                refine L_gf (e := 94) (by rfl) (by decide) (rfl : _ = Value.bool (decide (y48.1 = (-1)))) hb63 (by decide) ?_
                refine L_gf (e := 94) (by rfl) (by decide) (rfl : _ = Value.bool (decide (y48.1 = (-1)))) hb63 (by decide) ?_
                refine L_pick_f (rfl : _ = Value.bool (decide (y48.1 = (-1)))) hb63 (rfl : _ = Value.bool (false)) (by decide) ?_
                refine L_move (rfl : _ = Value.bool (false)) (by decide) ?_
                refine L_gf (e := 98) (by rfl) (by decide) (rfl : _ = Value.bool (false)) rfl (by decide) ?_
                refine L_pick_f (rfl : _ = Value.bool (false)) rfl (rfl : _ = Value.bool (false)) (by decide) ?_
                refine L_assign (rfl : _ = Value.bool (false)) (by decide) ?_
                refine L_nil ?_
                refine then_n ?_
                refine W_ret ?_
                refine block_r ?_
                obtain rfl := Option.some.inj hr
                have hr := hq61
                try dsimp only at hr
                refine then_r ?_
                obtain rfl := Option.some.inj hr
                exact done1 (Or.inl rfl) Try.results8 rfl ⟨_, _, rfl, rfl, hE54, Vbool⟩
            · have hr := ite_f hb62 hr
              refine W_seq ?_
              refine W_region ?_
              refine L_move g44_15 (by decide) ?_
              refine L_eql (rfl : _ = Value.int .i64 (y9.2.2.1)) (rfl : _ = Value.int .i64 (1)) (by decide) ?_
              refine L_assign (rfl : _ = Value.bool (decide (y9.2.2.1 = 1))) (by decide) ?_
              refine L_nil ?_
              refine then_n ?_
              refine W_cond _ (rfl : _ = Value.bool (decide (y9.2.2.1 = 1))) (fun hb72 => ?_) (fun hb72 => ?_)
              · have hr := ite_t hb72 hr
                refine W_seq ?_
                refine W_region ?_
                refine L_move (rfl : _ = Value.int .i64 (y48.1)) (by decide) ?_
                refine L_eql (rfl : _ = Value.int .i64 (y48.1)) (rfl : _ = Value.int .i64 (0)) (by decide) ?_
                refine L_move (rfl : _ = Value.bool (decide (y48.1 = 0))) (by decide) ?_
                rcases Bool.eq_false_or_eq_true (decide (y48.1 = 0)) with hb73 | hb73
                · have hr := ite_t hb73 hr
                  refine L_gt (e := 106) (by rfl) (by decide) (rfl : _ = Value.bool (decide (y48.1 = 0))) hb73 ?_
                  refine L_move (rfl : _ = Value.int .i64 (y48.2)) (by decide) ?_
                  refine L_gt (e := 106) (by rfl) (by decide) (rfl : _ = Value.bool (decide (y48.1 = 0))) hb73 ?_
                  refine L_eql (rfl : _ = Value.int .i64 (y48.2)) (rfl : _ = Value.int .i64 (20)) (by decide) ?_
                  refine L_pick_t (rfl : _ = Value.bool (decide (y48.1 = 0))) hb73 (rfl : _ = Value.bool (decide (y48.2 = 20))) (by decide) ?_
                  refine L_move (rfl : _ = Value.bool (decide (y48.2 = 20))) (by decide) ?_
                  rcases Bool.eq_false_or_eq_true (decide (y48.2 = 20)) with hb74 | hb74
                  · have hr := ite_t hb74 hr
                    refine L_gt (e := 110) (by rfl) (by decide) (rfl : _ = Value.bool (decide (y48.2 = 20))) hb74 ?_
                    obtain ⟨y75, hy76, hr⟩ := bind_some hr
                    refine L_calls cal9 (args0) (law14_works_ok N _  y75 hy76) (by decide) ?_
                    intro v77 s80 e78 hv79
                    have hE81 := Tch.ext hE54 e78
                    obtain rfl := hv79.bool
                    refine L_pick_t (rfl : _ = Value.bool (decide (y48.2 = 20))) hb74 (rfl : _ = Value.bool (y75)) (by decide) ?_
                    refine L_assign (rfl : _ = Value.bool (y75)) (by decide) ?_
                    refine L_nil ?_
                    refine then_n ?_
                    refine W_ret ?_
                    refine block_r ?_
                    obtain rfl := Option.some.inj hr
                    have hr := hq61
                    try dsimp only at hr
                    refine then_r ?_
                    obtain rfl := Option.some.inj hr
                    exact done1 (Or.inl rfl) Try.results8 rfl ⟨_, _, rfl, rfl, hE81, Vbool⟩
                  · have hr := ite_f hb74 hr
                    refine L_gf (e := 110) (by rfl) (by decide) (rfl : _ = Value.bool (decide (y48.2 = 20))) hb74 (by decide) ?_
                    refine L_pick_f (rfl : _ = Value.bool (decide (y48.2 = 20))) hb74 (rfl : _ = Value.bool (false)) (by decide) ?_
                    refine L_assign (rfl : _ = Value.bool (false)) (by decide) ?_
                    refine L_nil ?_
                    refine then_n ?_
                    refine W_ret ?_
                    refine block_r ?_
                    obtain rfl := Option.some.inj hr
                    have hr := hq61
                    try dsimp only at hr
                    refine then_r ?_
                    obtain rfl := Option.some.inj hr
                    exact done1 (Or.inl rfl) Try.results8 rfl ⟨_, _, rfl, rfl, hE54, Vbool⟩
                · have hr := ite_f hb73 hr
                  refine L_gf (e := 106) (by rfl) (by decide) (rfl : _ = Value.bool (decide (y48.1 = 0))) hb73 (by decide) ?_
                  refine L_gf (e := 106) (by rfl) (by decide) (rfl : _ = Value.bool (decide (y48.1 = 0))) hb73 (by decide) ?_
                  refine L_pick_f (rfl : _ = Value.bool (decide (y48.1 = 0))) hb73 (rfl : _ = Value.bool (false)) (by decide) ?_
                  refine L_move (rfl : _ = Value.bool (false)) (by decide) ?_
                  refine L_gf (e := 110) (by rfl) (by decide) (rfl : _ = Value.bool (false)) rfl (by decide) ?_
                  refine L_pick_f (rfl : _ = Value.bool (false)) rfl (rfl : _ = Value.bool (false)) (by decide) ?_
                  refine L_assign (rfl : _ = Value.bool (false)) (by decide) ?_
                  refine L_nil ?_
                  refine then_n ?_
                  refine W_ret ?_
                  refine block_r ?_
                  obtain rfl := Option.some.inj hr
                  have hr := hq61
                  try dsimp only at hr
                  refine then_r ?_
                  obtain rfl := Option.some.inj hr
                  exact done1 (Or.inl rfl) Try.results8 rfl ⟨_, _, rfl, rfl, hE54, Vbool⟩
              · have hr := ite_f hb72 hr
                refine W_skip ?_
                refine block_n ?_
                exact then_n ⟨s53, rfl, hE54, (Le.refl _), Option.some.inj hr, rfl, rfl, rfl⟩
          · rintro f95 w96 ⟨s82, rfl, hE84, l83, ho60, g85_18, g85_19, g85_21⟩
            subst ho60
            have hr := hq61
            try dsimp only at hr
            refine W_seq ?_
            refine W_region ?_
            refine L_move g85_21 (by decide) ?_
            refine L_move g85_19 (by decide) ?_
            refine L_eql (rfl : _ = Value.int .i64 (y48.1)) (rfl : _ = Value.int .i64 (Int.tmod a3.n (y9.1.length : Int))) (by decide) ?_
            refine L_move (rfl : _ = Value.bool (decide (y48.1 = (Int.tmod a3.n (y9.1.length : Int))))) (by decide) ?_
            rcases Bool.eq_false_or_eq_true (decide (y48.1 = (Int.tmod a3.n (y9.1.length : Int)))) with hb86 | hb86
            · have hr := ite_t hb86 hr
              refine L_gt (e := 116) (by rfl) (by decide) (rfl : _ = Value.bool (decide (y48.1 = (Int.tmod a3.n (y9.1.length : Int))))) hb86 ?_
              refine L_move g85_18 (by decide) ?_
              refine L_gt (e := 116) (by rfl) (by decide) (rfl : _ = Value.bool (decide (y48.1 = (Int.tmod a3.n (y9.1.length : Int))))) hb86 ?_
              refine L_eql (rfl : _ = Value.int .i64 (y48.2)) (rfl : _ = Value.int .i64 (0)) (by decide) ?_
              refine L_pick_t (rfl : _ = Value.bool (decide (y48.1 = (Int.tmod a3.n (y9.1.length : Int))))) hb86 (rfl : _ = Value.bool (decide (y48.2 = 0))) (by decide) ?_
              refine L_move (rfl : _ = Value.bool (decide (y48.2 = 0))) (by decide) ?_
              rcases Bool.eq_false_or_eq_true (decide (y48.2 = 0)) with hb87 | hb87
              · have hr := ite_t hb87 hr
                refine L_gt (e := 120) (by rfl) (by decide) (rfl : _ = Value.bool (decide (y48.2 = 0))) hb87 ?_
                obtain ⟨y88, hy89, hr⟩ := bind_some hr
                refine L_calls cal9 (args0) (law14_works_ok N _  y88 hy89) (by decide) ?_
                intro v90 s93 e91 hv92
                have hE94 := Tch.ext hE84 e91
                obtain rfl := hv92.bool
                refine L_pick_t (rfl : _ = Value.bool (decide (y48.2 = 0))) hb87 (rfl : _ = Value.bool (y88)) (by decide) ?_
                refine L_assign (rfl : _ = Value.bool (y88)) (by decide) ?_
                refine L_nil ?_
                refine then_n ?_
                refine W_ret ?_
                obtain rfl := Option.some.inj hr
                exact done1 (Or.inl rfl) Try.results8 rfl ⟨_, _, rfl, rfl, hE94, Vbool⟩
              · have hr := ite_f hb87 hr
                refine L_gf (e := 120) (by rfl) (by decide) (rfl : _ = Value.bool (decide (y48.2 = 0))) hb87 (by decide) ?_
                refine L_pick_f (rfl : _ = Value.bool (decide (y48.2 = 0))) hb87 (rfl : _ = Value.bool (false)) (by decide) ?_
                refine L_assign (rfl : _ = Value.bool (false)) (by decide) ?_
                refine L_nil ?_
                refine then_n ?_
                refine W_ret ?_
                obtain rfl := Option.some.inj hr
                exact done1 (Or.inl rfl) Try.results8 rfl ⟨_, _, rfl, rfl, hE84, Vbool⟩
            · have hr := ite_f hb86 hr
              refine L_gf (e := 116) (by rfl) (by decide) (rfl : _ = Value.bool (decide (y48.1 = (Int.tmod a3.n (y9.1.length : Int))))) hb86 (by decide) ?_
              refine L_gf (e := 116) (by rfl) (by decide) (rfl : _ = Value.bool (decide (y48.1 = (Int.tmod a3.n (y9.1.length : Int))))) hb86 (by decide) ?_
              refine L_pick_f (rfl : _ = Value.bool (decide (y48.1 = (Int.tmod a3.n (y9.1.length : Int))))) hb86 (rfl : _ = Value.bool (false)) (by decide) ?_
              refine L_move (rfl : _ = Value.bool (false)) (by decide) ?_
              refine L_gf (e := 120) (by rfl) (by decide) (rfl : _ = Value.bool (false)) rfl (by decide) ?_
              refine L_pick_f (rfl : _ = Value.bool (false)) rfl (rfl : _ = Value.bool (false)) (by decide) ?_
              refine L_assign (rfl : _ = Value.bool (false)) (by decide) ?_
              refine L_nil ?_
              refine then_n ?_
              refine W_ret ?_
              obtain rfl := Option.some.inj hr
              exact done1 (Or.inl rfl) Try.results8 rfl ⟨_, _, rfl, rfl, hE84, Vbool⟩

end
end Go.Arm
