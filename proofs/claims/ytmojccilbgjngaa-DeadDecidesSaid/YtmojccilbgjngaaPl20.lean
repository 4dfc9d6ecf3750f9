/- Plain laws. -/
import Derived.Test.YtmojccilbgjngaaPl19
import Derived.Test.YtmojccilbgjngaaPlD
import Derived.Test.YtmojccilbgjngaaPlW
import Derived.Test.YtmojccilbgjngaaPlF
namespace Go.Arm
open Go

section
variable {N : Nat} {c : List (List Deed)} {room : Int}
theorem rended_l1 (hN : 1300 ≤ N) (a0 : List Int) (f0 : Nat → Nat) : ∀ (m : Nat) (out : List Int) (av : List Int), RunOk ⟨c, room, av⟩ → folS c room out f0 = .ok (fN av) → rest c av < m → out.length + rest c av ≤ 10000 →
  ∃ out' av', ref08_Case_ended_l1 N ⟨c, room, a0⟩ m out av = some (.inr (out', av')) ∧ RunOk ⟨c, room, av'⟩ ∧ folS c room out' f0 = .ok (fN av') ∧ TermS c room (fN av') := by
 have ew : ∀ av, Case.with_At (⟨c, room, a0⟩ : Case) av = ⟨c, room, av⟩ := fun _ => rfl
 intro m
 induction m with
 | zero => intro out av _ _ h; omega
 | succ m ih =>
  intro out av h hf hm ho
  rw [ref08_Case_ended_l1, ew]
  rcases least_eq hN h with ⟨e, ht⟩ | ⟨k, hk, e, hc⟩
  ·rw [e, Option.bind_some, if_pos (by simp)]
   exact ⟨_, _, rfl, h, hf, ht⟩
  ·have ha : av[k]? = some (fN av k : Int) := h.at hk
   have hlt0 : fN av k < (rowS c k).length := canS_lt hc
   rw [rowS_eq (List.getElem?_eq_getElem hk)] at hlt0
   have h200 : c[k].length ≤ 200 := h.chk.rows _ (List.getElem_mem hk)
   have hR : inR ((fN av k : Int) + 1) := inR_small (by omega) (by omega)
   have hs := rest_set c av k c[k] (fN av k) (List.getElem?_eq_getElem hk) ha hlt0
   have hstep : RunOk ⟨c, room, av.set k ((fN av k : Int) + 1)⟩ := h.go hk hc
   have hlc : (out.length + ([(k : Int)] : List Int).length) * 8 ≤ 140737488355328 ∧ out.length + ([(k : Int)] : List Int).length ≤ maxLen := by
    rw [List.length_singleton]
    exact ⟨by omega, small_len (by omega)⟩
   have hset := fN_set (av := av) (p := k) (List.getElem?_eq_some_iff.1 ha).1 _ ha
   rw [e, Option.bind_some, if_neg (by simp), idx_nat, ha, Option.bind_some, chk_t hR, Option.bind_some, chk_t hlc, show (k : Int).toNat = k from Int.toNat_natCast k]
   exact ih (out ++ [(k : Int)]) _ hstep (by rw [hset]; exact fol_snoc _ _ _ _ hf hk hc) (by omega) (by rw [List.length_append, List.length_singleton]; omega)
theorem rEnd_eq (hN : 1300 ≤ N) (h : CaseOk c) (h0 : 0 ≤ room) {out av : List Int} (hE : EndOk c room out av) : ref08_End N c room = some (av, 0) := by
 have h6 := h.six
 obtain ⟨e, he, h1⟩ := started_exact N c room hN
 have : e = 0 := he.same (.ok h.chk h.shut h0)
 subst this
 have hr0 := (newRun_eq hN h h0).2
 have hrl := rest_le c (List.replicate c.length 0) h.chk.rows
 obtain ⟨o, av', h2, h3, h4, h5⟩ := rended_l1 (c := c) (room := room) hN (List.replicate c.length 0) zeroF N [] (List.replicate c.length 0) hr0 (by rw [fN_zero]; rfl) (by omega) (by simp; omega)
 have : av' = av := run_ext h3 hE.run (fol_unique h4 hE.fol h5 hE.term)
 subst this
 unfold ref08_End
 rw [h1, Option.bind_some, if_neg (by simp), if_pos rfl, Option.bind_some, show Case.with_At (⟨c, room, List.replicate c.length 0⟩ : Case) (⟨c, room, List.replicate c.length 0⟩ : Case).At = ⟨c, room, List.replicate c.length 0⟩ from rfl]
 unfold ref08_Case_ended
 dsimp only
 rw [h2]; rfl
theorem rcomes_eq (hN : 1300 ≤ N) (h : CaseOk c) (h0 : 0 ≤ room) : ref08_comes N c room = dead_comes N c room := by
 obtain ⟨out, av, _, he, _, hE⟩ := End_eq hN h h0
 have hre := rEnd_eq hN h h0 hE
 have hlen : av.length = c.length := hE.run.len
 have h6 := h.six
 rw [comes_eq hN h he hE]
 unfold ref08_comes
 rw [hre, Option.bind_some]
 have hl := loop_ret0 (F := ref08_comes_l1 N c (av, 0)) (len := c.length) (m := N) (fun k => if fN av k = (rowS c k).length then none else some false) (by omega)
  (fun m k hk => by rw [ref08_comes_l1, if_neg (by simpa using hk)])
  (fun m k hk => by
   have hR : inR ((k : Int) + 1) := inR_small (by omega) (by omega)
   have hat : av[k]? = some (fN av k : Int) := hE.run.at hk
   have hle : fN av k ≤ (rowS c k).length := hE.run.lt hk
   have hrow := rowS_eq (List.getElem?_eq_getElem hk)
   rw [ref08_comes_l1, if_pos (by simpa using hk)]
   dsimp only
   rw [idx_nat, hat, Option.bind_some, idx_nat, List.getElem?_eq_getElem hk, Option.bind_some]
   rw [hrow] at hle ⊢
   by_cases hc : fN av k = c[k].length
   ·rw [if_neg (by simp; omega), if_pos hc, chk_t hR]; rfl
   ·rw [if_pos (by simp; omega), if_neg hc])
 rcases hl with ⟨e, hall⟩ | ⟨k, x, hk, hg, e, _⟩
 ·rw [e]
  have : allS c (fN av) = true := by
   unfold allS
   rw [List.all_eq_true]
   intro k hk
   have := hall k (List.mem_range.1 hk)
   by_cases hc : fN av k = (rowS c k).length
   ·simpa using hc
   ·rw [if_neg hc] at this; cases this
  rw [this]; rfl
 ·rw [e]
  have hc : ¬ fN av k = (rowS c k).length := by
   intro hc
   rw [if_pos hc] at hg; cases hg
  rw [if_neg hc] at hg
  cases hg
  have : allS c (fN av) = false := by
   unfold allS
   rw [List.all_eq_false]
   exact ⟨k, List.mem_range.2 hk, by simpa using hc⟩
  rw [this]; rfl
theorem rdecide_l1 (hN : 1300 ≤ N) (h : CaseOk c) (y : Bool × Int) {x : Nat} (hx : x ≤ 200) (h1 : dead_comes N c (x : Int) = some true) (h2 : dead_comes N c ((x : Int) - 1) = some false) : ∀ (m k : Nat), x - k < m → 1 ≤ k → k ≤ x → ref08_Decide_l1 N (c, y) m (k : Int) = some (x : Int) := by
 intro m
 induction m with
 | zero => intro k hk; omega
 | succ m ih =>
  intro k hk hk1 hk2
  have hR : inR ((k : Int) + 1) := inR_small (by omega) (by omega)
  have e : (k : Int) + 1 = ((k + 1 : Nat) : Int) := rfl
  rw [ref08_Decide_l1]
  dsimp only
  rw [rcomes_eq hN h (by omega)]
  by_cases hkx : k = x
  ·subst hkx
   rw [h1, Option.bind_some, if_neg (by simp)]
  ·obtain ⟨b, hb⟩ := comes_ok hN h (room := (k : Int)) (by omega)
   cases b
   ·rw [hb, Option.bind_some, if_pos (by simp), chk_t hR, e]
    exact ih (k + 1) (by omega) (by omega) (by omega)
   ·have := comes_tot hN h (room := (k : Int)) (room' := (x : Int) - 1) (by omega) (by omega) hb
    rw [h2] at this
    cases this
theorem rDecide_eq {c0 : List (List Deed)} (hN : 1300 ≤ N) (hn : ref08_Narrow N c0 = some (c, true, 0)) (h : CaseOk c) {v : Verdict} (hv : Says N c v) : ref08_Decide N c0 = some (v, 0) := by
 unfold ref08_Decide
 rw [hn, Option.bind_some, if_neg (by simp), if_neg (by simp)]
 dsimp only
 rw [rcomes_eq hN h (by omega), rcomes_eq hN h (by omega)]
 rcases hv with ⟨rfl, h1⟩ | ⟨rfl, h1, h2⟩ | ⟨x, rfl, h1, h2, h3, h4, h5⟩
 ·rw [h1, Option.bind_some, if_pos rfl]
 ·rw [h1, Option.bind_some, if_neg (by simp), h2, Option.bind_some, if_pos (by simp)]
 ·have h200 := comes_tot hN h (by omega) h2 h3
  obtain ⟨n, rfl⟩ : ∃ n : Nat, x = (n : Int) := ⟨x.toNat, by omega⟩
  have hl := rdecide_l1 hN h (true, 0) (by omega) h3 h4 N 1 (by omega) (by omega) (by omega)
  rw [show ((1 : Nat) : Int) = 1 from rfl] at hl
  rw [h5, Option.bind_some, if_neg (by simp), h200, Option.bind_some, if_neg (by simp), hl]
  rfl
theorem rDecide_un {c0 l : List (List Deed)} (hn : ref08_Narrow N c0 = some (l, false, 0)) : ref08_Decide N c0 = some (⟨4, 0⟩, 0) := by
 unfold ref08_Decide
 rw [hn, Option.bind_some, if_neg (by simp), if_pos (by simp)]
end
theorem same_one (d : Deed) : (if (!decide (d.Kind = d.Kind)) = true then some true else if (!decide (d.Peer = d.Peer)) = true then some true else if (!decide (d.Tag = d.Tag)) = true then some true else if (!decide (d.Req = d.Req)) = true then some true else some (!(d.Sync == d.Sync))) = some false := by simp
theorem same_l2 {N : Nat} (hN : 1300 ≤ N) (l : List (List Deed)) {k : Nat} {y : List Deed} (hk : l[k]? = some y) (hy : y.length ≤ 1000) : law08_same_l2 N l l (k : Int) N 0 = some (.inl ()) := by
 have h2 := loop_ret0 (F := law08_same_l2 N l l (k : Int)) (len := y.length) (m := N) (fun _ => (none : Option Bool)) (by omega)
  (fun m j hj => by rw [law08_same_l2, idx_nat, hk, Option.bind_some, if_neg (by simpa using hj)])
  (fun m j hj => by
   have hR2 : inR ((j : Int) + 1) := inR_small (by omega) (by omega)
   rw [law08_same_l2, idx_nat, hk, Option.bind_some, if_pos (by simpa using hj), Option.bind_some, idx_nat, List.getElem?_eq_getElem hj, Option.bind_some, Option.bind_some, idx_nat, List.getElem?_eq_getElem hj, Option.bind_some, same_one, Option.bind_some]
   dsimp only
   rw [if_neg (by simp), chk_t hR2]; rfl)
 rcases h2 with ⟨e, _⟩ | ⟨j, x, hj, hg, e, _⟩
 ·exact e
 ·cases hg
theorem same_self {N : Nat} (hN : 1300 ≤ N) (l : List (List Deed)) (hl : l.length ≤ 1000) (hr : ∀ x ∈ l, x.length ≤ 1000) : law08_same N l l = some true := by
 unfold law08_same
 rw [if_neg (by simp)]
 have h := loop_ret0 (F := law08_same_l1 N l l) (len := l.length) (m := N) (fun _ => (none : Option Bool)) (by omega)
  (fun m k hk => by rw [law08_same_l1, if_neg (by simpa using hk)])
  (fun m k hk => by
   have hR : inR ((k : Int) + 1) := inR_small (by omega) (by omega)
   rw [law08_same_l1, if_pos (by simpa using hk), idx_nat, List.getElem?_eq_getElem hk, Option.bind_some, Option.bind_some, if_neg (by simp), same_l2 hN l (List.getElem?_eq_getElem hk) (hr _ (List.getElem_mem hk)), Option.bind_some]
   dsimp only
   rw [chk_t hR]; rfl)
 rcases h with ⟨e, _⟩ | ⟨k, x, hk, hg, e, _⟩
 ·rw [e]; rfl
 ·cases hg
theorem narrow_bad {N : Nat} {c : List (List Deed)} {e : Int} (hN : 1300 ≤ N) (h : ChkS c e) (h0 : e ≠ 0) : dead_Narrow N c = some ([], false, e) ∧ ref08_Narrow N c = some ([], false, e) ∧ dead_Decide N c = some (⟨0, 0⟩, e) ∧ ref08_Decide N c = some (⟨0, 0⟩, e) := by
 obtain ⟨e1, h1, hs1⟩ := check_exact N c hN
 obtain ⟨e2, h2, hs2⟩ := rcheck_exact N c hN
 have a1 := hs1.same h
 have a2 := hs2.same h
 subst a1
 subst a2
 have b1 : dead_Narrow N c = some ([], false, e2) := by
  unfold dead_Narrow
  rw [h1, Option.bind_some, if_pos (by simpa using h0)]
 have b2 : ref08_Narrow N c = some ([], false, e2) := by
  unfold ref08_Narrow
  rw [h2, Option.bind_some, if_pos (by simpa using h0)]
 refine ⟨b1, b2, ?_, ?_⟩
 ·unfold dead_Decide
  rw [b1, Option.bind_some, if_pos (by simpa using h0)]; rfl
 ·unfold ref08_Decide
  rw [b2, Option.bind_some, if_pos (by simpa using h0)]
theorem law_decides (c : List (List Deed)) : law08_DeadDecides 1300 c = some true := by
 have hN : 1300 ≤ 1300 := Nat.le_refl _
 unfold law08_DeadDecides
 obtain ⟨b, hb, hF⟩ := few_eq hN c
 rw [hb, Option.bind_some, works_true]
 cases b
 ·rfl
 have hF := hF rfl
 have hl80 := hF.len
 have hgap := hF.gap
 rw [if_neg (by simp), deeds_eq hN (by omega) (fun l hl => by have := hF.rows l hl; omega), Option.bind_some]
 have hsc := same_self hN c (by omega) (fun l hl => by have := hF.rows l hl; omega)
 have key : ∃ l b e v, dead_Narrow 1300 c = some (l, b, e) ∧ ref08_Narrow 1300 c = some (l, b, e) ∧ dead_Decide 1300 c = some (v, e) ∧ ref08_Decide 1300 c = some (v, e) ∧ l.length ≤ 1000 ∧ ∀ x ∈ l, x.length ≤ 1000 := by
  obtain ⟨e, he, hs⟩ := check_exact 1300 c hN
  by_cases h0 : e = 0
  ·subst h0
   have hc := hs.ok0
   have hmost := hc.most
   have n1 := Narrow_eq hN hc
   have n2 := rNarrow_eq hN hc
   obtain ⟨o, n3, _, hk⟩ := Narrow_ok hN hc
   cases ho : narR c 0 c with
   | none =>
    rw [ho] at n1 n2
    exact ⟨[], false, 0, ⟨4, 0⟩, n1, n2, Decide_un n1, rDecide_un n2, by simp, by simp⟩
   | some l =>
    rw [ho] at n1 n2
    have hol : o = some l := by
     rw [n1] at n3
     cases o with
     | none => simp [narV] at n3
     | some l' => simp [narV] at n3; rw [n3]
    have hno := hk l hol
    have hcase := hno.case hc (by omega)
    obtain ⟨v, hd, hv⟩ := Decide_eq hN n1 hcase
    have hlen := hno.len
    exact ⟨l, true, 0, v, n1, n2, hd, rDecide_eq hN n2 hcase hv, by omega, fun x hx => by have := hcase.chk.rows x hx; omega⟩
  ·obtain ⟨b1, b2, b3, b4⟩ := narrow_bad hN hs h0
   exact ⟨[], false, e, ⟨0, 0⟩, b1, b2, b3, b4, by simp, by simp⟩
 obtain ⟨l, b, e, v, h1, h2, h3, h4, h5, h6⟩ := key
 rw [h1, Option.bind_some, h2, Option.bind_some]
 dsimp only
 rw [same_self hN l h5 h6, Option.bind_some, if_neg (by simp), if_neg (by simp), if_neg (by simp), hsc, Option.bind_some, Option.bind_some]
 rw [if_neg (by simp), h3, Option.bind_some, h4, Option.bind_some, if_pos (by simp), if_pos (by simp), if_pos (by simp)]
 rfl
end Go.Arm
