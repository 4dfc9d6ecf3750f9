/- Plain laws. -/
import Derived.Test.YtmojccilbgjngaaPl7
namespace Go.Arm
open Go

def LeF (f g : Nat → Nat) : Prop := ∀ q, f q ≤ g q
theorem parS_mono {c : List (List Deed)} {f g : Nat → Nat} (h : LeF f g) {s d i : Nat} {x : Int} (h0 : 0 ≤ x) (hx : (parS c f s d)[i]? = some x) : (parS c g s d)[i]? = some x := by
 unfold parS bgS at hx ⊢
 exact partS_grow _ _ _ _ (by have := h s; omega) (by have := h d; omega) h0 hx
theorem getD_pos {P : List Int} {i : Nat} (h : 0 ≤ P[i]?.getD (-1)) : ∃ x, P[i]? = some x ∧ 0 ≤ x := by
 cases hP : P[i]? with
 | none => rw [hP] at h; simp at h
 | some x => rw [hP] at h; exact ⟨x, rfl, h⟩
theorem takS_mono {c : List (List Deed)} {f g : Nat → Nat} {room room' : Int} (hr : room ≤ room') (h : LeF f g) {p i : Nat} (ht : takS c room f p i = true) : takS c room' g p i = true := by
 unfold takS at ht ⊢
 cases hm : (rowS c p)[i]? with
 | none => rw [hm] at ht; cases ht
 | some m =>
  rw [hm] at ht
  simp only [Bool.or_eq_true, decide_eq_true_eq, Bool.and_eq_true] at ht ⊢
  rcases ht with ht | ⟨h1, h2⟩
  ·obtain ⟨x, hx, hx0⟩ := getD_pos ht
   rw [parS_mono h hx0 hx]
   exact Or.inl hx0
  ·refine Or.inr ⟨h1, ?_⟩
   have : leftS c (parS c g p m.Peer.toNat) p i m.Peer ≤ leftS c (parS c f p m.Peer.toNat) p i m.Peer := by
    unfold leftS
    refine List.countP_mono_left fun k _ hk => ?_
    unfold freeS at hk ⊢
    cases hy : (rowS c p)[k]? with
    | none => rw [hy] at hk; cases hk
    | some y =>
     rw [hy] at hk
     simp only [Bool.and_eq_true, decide_eq_true_eq] at hk ⊢
     refine ⟨hk.1, ?_⟩
     apply Int.lt_of_not_ge
     intro h3
     obtain ⟨x, hx, hx0⟩ := getD_pos h3
     have := hk.2
     rw [parS_mono h hx0 hx] at this
     simp at this
     omega
   omega
theorem recS_mono {c : List (List Deed)} {f g : Nat → Nat} (h : LeF f g) {p i : Nat} (ht : recS c f p i = true) : recS c g p i = true := by
 unfold recS at ht ⊢
 cases hm : (rowS c p)[i]? with
 | none => rw [hm] at ht; cases ht
 | some m =>
  rw [hm] at ht
  simp only [decide_eq_true_eq] at ht ⊢
  obtain ⟨j, hj⟩ := List.getElem?_of_mem ht
  exact List.mem_of_getElem? (parS_mono h (by omega) hj)
theorem meetS_mono {c : List (List Deed)} {f g : Nat → Nat} (h : LeF f g) (p : Nat) : meetS c f p ≤ meetS c g p := by
 unfold meetS bgS
 have e : (rowS c p).take (f p + 1) = ((rowS c p).take (g p + 1)).take (f p + 1) := by rw [List.take_take, Nat.min_eq_left (by have := h p; omega)]
 rw [e]
 exact (List.take_sublist _ _).countP_le
theorem meetS_same {c : List (List Deed)} {f g : Nat → Nat} {p : Nat} (h : f p = g p) : meetS c f p = meetS c g p := by
 unfold meetS bgS; rw [h]
theorem late_empty {c : List (List Deed)} {f : Nat → Nat} {p : Nat} : (lateS c f p).isEmpty = true ↔ ∀ q, q < c.length → meetS c f p ≤ meetS c f q := by
 unfold lateS
 rw [List.isEmpty_iff, List.filter_eq_nil_iff]
 simp only [List.mem_range, decide_eq_true_eq, Nat.not_lt]
theorem canS_mono {c : List (List Deed)} {f g : Nat → Nat} {room room' : Int} (hr : room ≤ room') (h : LeF f g) {p : Nat} (hp : f p = g p) (ht : canS c room f p = true) : canS c room' g p = true := by
 unfold canS at ht ⊢
 rw [← hp]
 cases hm : (rowS c p)[f p]? with
 | none => rw [hm] at ht; cases ht
 | some d =>
  rw [hm] at ht
  dsimp only at ht ⊢
  split
  ·rw [if_pos ‹_›] at ht; exact takS_mono hr h ht
  rw [if_neg ‹_›] at ht
  split
  ·rw [if_pos ‹_›] at ht; exact recS_mono h ht
  rw [if_neg ‹_›] at ht
  split
  ·rw [if_pos ‹_›] at ht
   rw [late_empty] at ht ⊢
   intro q hq
   have h1 := ht q hq
   have h2 := meetS_mono (c := c) h q
   have h3 := meetS_same (c := c) hp
   omega
  rw [if_neg ‹_›] at ht
  split
  ·rw [if_pos ‹_›] at ht
   unfold doesS at ht ⊢
   cases hx : (rowS c p)[reqS (rowS c p) d.Req]? with
   | none => rw [hx] at ht; cases ht
   | some x =>
    rw [hx] at ht
    dsimp only at ht ⊢
    split
    ·rw [if_pos ‹_›] at ht; exact takS_mono hr h ht
    ·rw [if_neg ‹_›] at ht; exact recS_mono h ht
  ·rfl
theorem canS_lt {c : List (List Deed)} {f : Nat → Nat} {room : Int} {p : Nat} (ht : canS c room f p = true) : f p < (rowS c p).length := by
 unfold canS at ht
 split at ht
 ·cases ht
 ·exact (List.getElem?_eq_some_iff.1 ‹_›).1

def stepF (f : Nat → Nat) (p : Nat) : Nat → Nat := fun q => if q = p then f q + 1 else f q
def folS (c : List (List Deed)) (room : Int) : List Int → (Nat → Nat) → Except Int (Nat → Nat)
 | [], f => .ok f
 | x :: s, f => if x < 0 ∨ (c.length : Int) ≤ x then .error 11 else if canS c room f x.toNat then folS c room s (stepF f x.toNat) else .error 6
def TermS (c : List (List Deed)) (room : Int) (f : Nat → Nat) : Prop := ∀ p, p < c.length → canS c room f p = false
theorem fol_below {c : List (List Deed)} {room room' : Int} (hr : room ≤ room') {X : Nat → Nat} (hX : TermS c room' X) : ∀ (s : List Int) (f g : Nat → Nat), LeF f X → folS c room s f = .ok g → LeF g X := by
 intro s
 induction s with
 | nil => intro f g h hg; cases hg; exact h
 | cons x s ih =>
  intro f g h hg
  rw [folS] at hg
  split at hg
  ·cases hg
  ·split at hg
   ·refine ih _ _ (fun q => ?_) hg
    unfold stepF
    split
    ·rename_i h1 h2 h3
     subst h3
     have hle := h x.toNat
     apply Nat.lt_of_le_of_ne hle
     intro he
     have := canS_mono hr h he h2
     rw [hX x.toNat (by omega)] at this
     cases this
    ·exact h q
   ·cases hg
theorem fol_up {c : List (List Deed)} {room : Int} : ∀ (s : List Int) (f g : Nat → Nat), folS c room s f = .ok g → LeF f g := by
 intro s
 induction s with
 | nil => intro f g hg; cases hg; exact fun q => Nat.le_refl _
 | cons x s ih =>
  intro f g hg
  rw [folS] at hg
  split at hg
  ·cases hg
  ·split at hg
   ·intro q
    have := ih _ _ hg q
    unfold stepF at this
    split at this <;> omega
   ·cases hg
theorem fol_unique {c : List (List Deed)} {room : Int} {s s' : List Int} {f g g' : Nat → Nat} (h : folS c room s f = .ok g) (h' : folS c room s' f = .ok g') (ht : TermS c room g) (ht' : TermS c room g') : g = g' := by
 funext q
 have h1 := fol_below (Int.le_refl room) ht' s f g (fol_up _ _ _ h') h q
 have h2 := fol_below (Int.le_refl room) ht s' f g' (fol_up _ _ _ h) h' q
 omega
theorem fol_snoc {c : List (List Deed)} {room : Int} : ∀ (s : List Int) (f g : Nat → Nat) (p : Nat), folS c room s f = .ok g → p < c.length → canS c room g p = true → folS c room (s ++ [(p : Int)]) f = .ok (stepF g p) := by
 intro s
 induction s with
 | nil =>
  intro f g p h hp hc
  cases h
  rw [List.nil_append, folS, if_neg (by omega), Int.toNat_natCast, if_pos hc]; rfl
 | cons x s ih =>
  intro f g p h hp hc
  rw [folS] at h
  rw [List.cons_append, folS]
  split
  ·rw [if_pos ‹_›] at h; cases h
  ·rw [if_neg ‹_›] at h
   split
   ·rw [if_pos ‹_›] at h; exact ih _ _ _ h hp hc
   ·rw [if_neg ‹_›] at h; cases h
theorem fN_set {av : List Int} {p : Nat} (hp : p < av.length) (a : Nat) (ha : av[p]? = some (a : Int)) : fN (av.set p ((a : Int) + 1)) = stepF (fN av) p := by
 funext q
 unfold stepF
 by_cases h : q = p
 ·subst h
  rw [if_pos rfl, fN_eq ha]
  unfold fN
  rw [List.getElem?_set_self hp]
  simp
 ·rw [if_neg h]
  unfold fN
  rw [List.getElem?_set_ne (Ne.symm h)]

section
variable {N : Nat} {r : Run}
theorem next_eq (hN : 1300 ≤ N) (h : RunOk r) : (dead_run_next N r = some (-1) ∧ TermS r.c r.room (fN r.at_)) ∨ ∃ k : Nat, k < r.c.length ∧ dead_run_next N r = some (k : Int) ∧ canS r.c r.room (fN r.at_) k = true ∧ ∀ j, j < k → canS r.c r.room (fN r.at_) j = false := by
 have hmost := h.chk.most
 unfold dead_run_next
 have hl := loop_ret0 (F := dead_run_next_l1 N r) (len := r.c.length) (m := N) (fun k => if canS r.c r.room (fN r.at_) k = true then some (k : Int) else none) (by omega)
  (fun m k hk => by rw [dead_run_next_l1, if_neg (by simpa using hk)])
  (fun m k hk => by
   have hR : inR ((k : Int) + 1) := inR_small (by omega) (by omega)
   rw [dead_run_next_l1, if_pos (by simpa using hk), can_eq hN h hk, Option.bind_some]
   cases canS r.c r.room (fN r.at_) k
   ·rw [if_neg (by simp), chk_t hR, if_neg (by simp)]; rfl
   ·rw [if_pos rfl, if_pos rfl])
 rcases hl with ⟨e, hall⟩ | ⟨k, x, hk, hg, e, hbef⟩
 ·rw [e]
  refine Or.inl ⟨rfl, fun p hp => ?_⟩
  have := hall p hp
  cases hc : canS r.c r.room (fN r.at_) p
  ·rfl
  ·rw [if_pos hc] at this; cases this
 ·rw [e]
  cases hc : canS r.c r.room (fN r.at_) k
  ·rw [if_neg (by simp [hc])] at hg; cases hg
  ·rw [if_pos hc] at hg
   cases hg
   refine Or.inr ⟨k, hk, rfl, hc, fun j hj => ?_⟩
   have := hbef j hj
   cases hc : canS r.c r.room (fN r.at_) j
   ·rfl
   ·rw [if_pos hc] at this; cases this
theorem RunOk.at (h : RunOk r) {k : Nat} (hk : k < r.c.length) : r.at_[k]? = some (fN r.at_ k : Int) := by
 obtain ⟨a, ha, _⟩ := h.rng k _ (List.getElem?_eq_getElem hk)
 rw [ha, fN_eq ha]
theorem RunOk.lt (h : RunOk r) {k : Nat} (hk : k < r.c.length) : fN r.at_ k ≤ (rowS r.c k).length := by
 obtain ⟨a, ha, hal⟩ := h.rng k _ (List.getElem?_eq_getElem hk)
 rw [fN_eq ha, rowS_eq (List.getElem?_eq_getElem hk)]; exact hal
theorem RunOk.go (h : RunOk r) {k : Nat} (hk : k < r.c.length) (hc : canS r.c r.room (fN r.at_) k = true) : RunOk (Run.with_at_ r (r.at_.set k ((fN r.at_ k : Int) + 1))) := by
 have h1 := canS_lt hc
 rw [rowS_eq (List.getElem?_eq_getElem hk)] at h1
 exact h.step (List.getElem?_eq_getElem hk) (h.at hk) h1
theorem finish_l1_eq (hN : 1300 ≤ N) (f0 : Nat → Nat) : ∀ (m : Nat) (out : List Int) (av : List Int) (x : Int), RunOk (Run.with_at_ r av) → dead_run_next N (Run.with_at_ r av) = some x → folS r.c r.room out f0 = .ok (fN av) → rest r.c av < m → out.length + rest r.c av ≤ 10000 →
  ∃ out' av', dead_run_finish_l1 N r m out x av = some (out', av') ∧ RunOk (Run.with_at_ r av') ∧ folS r.c r.room out' f0 = .ok (fN av') ∧ TermS r.c r.room (fN av') ∧ out'.length ≤ out.length + rest r.c av := by
 intro m
 induction m with
 | zero => intro out av x _ _ _ h; omega
 | succ m ih =>
  intro out av x h hx hf hm ho
  rw [dead_run_finish_l1]
  rcases next_eq hN h with ⟨e, ht⟩ | ⟨k, hk, e, hc, _⟩
  ·rw [e] at hx
   cases hx
   rw [if_neg (by simp)]; exact ⟨_, _, rfl, h, hf, ht, by omega⟩
  ·rw [e] at hx
   cases hx
   have hk' : k < r.c.length := hk
   have ha : av[k]? = some (fN av k : Int) := h.at hk
   have hlt0 : fN av k < (rowS r.c k).length := canS_lt hc
   have hrow := rowS_eq (List.getElem?_eq_getElem hk')
   rw [hrow] at hlt0
   have h200 : r.c[k].length ≤ 200 := h.chk.rows _ (List.getElem_mem hk')
   have hR : inR ((fN av k : Int) + 1) := inR_small (by omega) (by omega)
   have hs := rest_set r.c av k r.c[k] (fN av k) (List.getElem?_eq_getElem hk') ha hlt0
   have hstep : RunOk (Run.with_at_ r (av.set k ((fN av k : Int) + 1))) := h.go hk hc
   have hlc : (out.length + ([(k : Int)] : List Int).length) * 8 ≤ 140737488355328 ∧ out.length + ([(k : Int)] : List Int).length ≤ maxLen := by
    rw [List.length_singleton]
    exact ⟨by omega, small_len (by omega)⟩
   obtain ⟨y, hy, _⟩ := next_ok hN hstep
   have hset := fN_set (av := av) (p := k) (by have := (List.getElem?_eq_some_iff.1 ha).1; exact this) _ ha
   rw [if_pos (by simp), idx_nat, ha, Option.bind_some, chk_t hR, Option.bind_some, chk_t hlc, show (k : Int).toNat = k from Int.toNat_natCast k, hy, Option.bind_some]
   obtain ⟨o', a', h1, h2, h3, h4, h5⟩ := ih (out ++ [(k : Int)]) _ y hstep hy (by rw [hset]; exact fol_snoc _ _ _ _ hf hk' hc) (by omega) (by rw [List.length_append, List.length_singleton]; omega)
   refine ⟨o', a', h1, h2, h3, h4, ?_⟩
   rw [List.length_append, List.length_singleton] at h5
   omega
theorem finish_eq (hN : 1300 ≤ N) (h : RunOk r) (h6 : r.c.length ≤ 6) : ∃ out av, dead_run_finish N r = some (out, av) ∧ RunOk (Run.with_at_ r av) ∧ folS r.c r.room out (fN r.at_) = .ok (fN av) ∧ TermS r.c r.room (fN av) ∧ out.length ≤ rest r.c r.at_ := by
 unfold dead_run_finish
 have hr := rest_le r.c r.at_ h.chk.rows
 have e : Run.with_at_ r r.at_ = r := rfl
 obtain ⟨x, hx, _⟩ := next_ok hN h
 obtain ⟨out, av, h1, h2, h3, h4, h5⟩ := finish_l1_eq (r := r) hN (fN r.at_) N [] r.at_ x h hx rfl (by omega) (by simp; omega)
 rw [e, hx, Option.bind_some, h1]
 exact ⟨out, av, rfl, h2, h3, h4, by simpa using h5⟩
end

def zeroF : Nat → Nat := fun _ => 0
theorem fN_zero (n : Nat) : fN (List.replicate n 0) = zeroF := by
 funext q
 unfold fN zeroF
 rw [List.getElem?_replicate]
 split <;> rfl
theorem rest_zero : ∀ (c : List (List Deed)) (B : Nat), (∀ l ∈ c, l.length ≤ B) → ∀ av : List Int, rest c av ≤ B * c.length
 | [], _, _, _ => by simp [rest]
 | _ :: _, _, _, [] => by simp [rest]
 | x :: c, B, h, y :: av => by
  have h1 := rest_zero c B (fun l hl => h l (by simp [hl])) av
  have h2 := h x (by simp)
  simp only [rest, List.length_cons, Nat.mul_add]
  omega

section
variable {N : Nat} {c : List (List Deed)}
theorem newRun_eq (hN : 1300 ≤ N) (h : CaseOk c) {room : Int} (h0 : 0 ≤ room) : dead_newRun N c room = some (some ⟨c, room, List.replicate c.length 0⟩, 0) ∧ RunOk ⟨c, room, List.replicate c.length 0⟩ := by
 unfold dead_newRun
 have h6 := h.six
 rw [check_0 hN h.chk, Option.bind_some, if_neg (by simp)]
 have e1 : (fun x => dead_open N x) = fun x => some (openS x) := funext (open_eq N)
 have hl := loop_ret0 (F := dead_newRun_l1 N c) (len := c.length) (m := N) (fun k => (none : Option (Option Run × Int))) (by omega)
  (fun m k hk => by rw [dead_newRun_l1, if_neg (by simpa using hk)])
  (fun m k hk => by
   have hR : inR ((k : Int) + 1) := inR_small (by omega) (by omega)
   have hm := List.getElem_mem hk
   have hrow := h.chk.rows _ hm
   have hany : c[k].any openS = false := by rw [List.any_eq_false]; intro d hd; rw [h.shut _ hm d hd]; simp
   rw [dead_newRun_l1, if_pos (by simpa using hk), idx_nat, List.getElem?_eq_getElem hk, Option.bind_some, e1, cfun_eq N c[k] openS hN (by omega), Option.bind_some, hany, if_neg (by simp), chk_t hR]; rfl)
 rcases hl with ⟨e, _⟩ | ⟨k, x, hk, hg, e, _⟩
 ·rw [e, Option.bind_some]
  dsimp only
  rw [if_neg (by simpa using h0), chk_t ⟨by omega, by omega, by omega⟩]
  refine ⟨by rw [Int.toNat_natCast]; rfl, h.chk, h.shut, by show (List.replicate c.length (0 : Int)).length = c.length; simp, fun k l hk => ⟨0, ?_, by omega⟩⟩
  show (List.replicate c.length (0 : Int))[k]? = some 0
  have hkk : c[k]? = some l := hk
  have := (List.getElem?_eq_some_iff.1 hkk).1
  rw [List.getElem?_replicate, if_pos (by simpa using this)]
 ·cases hg
structure EndOk (c : List (List Deed)) (room : Int) (out av : List Int) : Prop where
 run : RunOk ⟨c, room, av⟩
 fol : folS c room out zeroF = .ok (fN av)
 term : TermS c room (fN av)
 len : ∀ B, (∀ l ∈ c, l.length ≤ B) → out.length ≤ B * c.length
theorem End_eq (hN : 1300 ≤ N) (h : CaseOk c) {room : Int} (h0 : 0 ≤ room) : ∃ out av, dead_run_finish N ⟨c, room, List.replicate c.length 0⟩ = some (out, av) ∧ dead_End N c room = some (av, 0) ∧ dead_Show N c room = some (out, 0) ∧ EndOk c room out av := by
 obtain ⟨h1, h2⟩ := newRun_eq hN h h0
 obtain ⟨out, av, h5, h6, h7, h8, h9⟩ := finish_eq hN h2 h.six
 refine ⟨out, av, h5, ?_, ?_, h6, ?_, h8, fun B hB => Nat.le_trans h9 (rest_zero c B hB _)⟩
 ·unfold dead_End
  rw [h1, Option.bind_some, if_neg (by simp), Option.bind_some, show Run.with_at_ (⟨c, room, List.replicate c.length 0⟩ : Run) (⟨c, room, List.replicate c.length 0⟩ : Run).at_ = ⟨c, room, List.replicate c.length 0⟩ from rfl, h5]; rfl
 ·unfold dead_Show
  rw [h1, Option.bind_some, if_neg (by simp), Option.bind_some, show Run.with_at_ (⟨c, room, List.replicate c.length 0⟩ : Run) (⟨c, room, List.replicate c.length 0⟩ : Run).at_ = ⟨c, room, List.replicate c.length 0⟩ from rfl, h5]; rfl
 ·have : fN (⟨c, room, List.replicate c.length 0⟩ : Run).at_ = zeroF := fN_zero _
  rw [this] at h7; exact h7
def allS (c : List (List Deed)) (f : Nat → Nat) : Bool := (List.range c.length).all (fun p => decide (f p = (rowS c p).length))
theorem comes_eq (hN : 1300 ≤ N) (h : CaseOk c) {room : Int} {out av : List Int} (he : dead_End N c room = some (av, 0)) (hE : EndOk c room out av) : dead_comes N c room = some (allS c (fN av)) := by
 have hlen : av.length = c.length := hE.run.len
 have h6 := h.six
 unfold dead_comes
 rw [he, Option.bind_some]
 have hl := loop_ret0 (F := dead_comes_l1 N c (av, 0)) (len := av.length) (m := N) (fun k => if fN av k = (rowS c k).length then none else some false) (by omega)
  (fun m k hk => by rw [dead_comes_l1, if_neg (by simpa using hk)])
  (fun m k hk => by
   have hR : inR ((k : Int) + 1) := inR_small (by omega) (by omega)
   have hkc : k < c.length := by omega
   have hat : av[k]? = some (fN av k : Int) := hE.run.at hkc
   have hle : fN av k ≤ (rowS c k).length := hE.run.lt hkc
   have hrow := rowS_eq (List.getElem?_eq_getElem hkc)
   rw [dead_comes_l1, if_pos (by simpa using hk), idx_nat, hat, Option.bind_some, idx_nat, List.getElem?_eq_getElem hkc, Option.bind_some]
   rw [hrow] at hle ⊢
   by_cases hc : fN av k = c[k].length
   ·rw [if_neg (by simp; omega), if_pos hc, chk_t hR]; rfl
   ·rw [if_pos (by simp; omega), if_neg hc])
 rcases hl with ⟨e, hall⟩ | ⟨k, x, hk, hg, e, _⟩
 ·rw [e]
  have : allS c (fN av) = true := by
   unfold allS
   rw [List.all_eq_true]
   intro k hk
   have := hall k (by rw [hlen]; exact List.mem_range.1 hk)
   by_cases hc : fN av k = (rowS c k).length
   ·simpa using hc
   ·rw [if_neg hc] at this; cases this
  rw [this]; rfl
 ·rw [e]
  have hc : ¬ fN av k = (rowS c k).length := by
   intro hc
   rw [if_pos hc] at hg; cases hg
  rw [if_neg hc] at hg
  cases hg
  have : allS c (fN av) = false := by
   unfold allS
   rw [List.all_eq_false]
   exact ⟨k, List.mem_range.2 (by omega), by simpa using hc⟩
  rw [this]; rfl
theorem all_mono {room room' : Int} (hr : room ≤ room') {o o' a a' : List Int} (h : EndOk c room o a) (h' : EndOk c room' o' a') : LeF (fN a) (fN a') :=
 fol_below hr h'.term o zeroF _ (fun _ => Nat.zero_le _) h.fol
theorem allS_mono {room room' : Int} (hr : room ≤ room') {o o' a a' : List Int} (h : EndOk c room o a) (h' : EndOk c room' o' a') (hs : allS c (fN a) = true) : allS c (fN a') = true := by
 unfold allS at hs ⊢
 rw [List.all_eq_true] at hs ⊢
 intro p hp
 have h1 := hs p hp
 have h2 := all_mono hr h h' p
 have h3 : fN a' p ≤ (rowS c p).length := h'.run.lt (List.mem_range.1 hp)
 simp only [decide_eq_true_eq] at h1 ⊢
 omega
end
end Go.Arm
