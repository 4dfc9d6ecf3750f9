/- Plain laws. -/
import Derived.Test.YtmojccilbgjngaaPl2
namespace Go.Arm
open Go

section
variable {N : Nat} {r : Run}
def NextOk (r : Run) (x : Int) : Prop := x = -1 ∨ ∃ (k : Nat) (l : List Deed) (a : Nat), x = (k : Int) ∧ r.c[k]? = some l ∧ r.at_[k]? = some (a : Int) ∧ a < l.length
open Classical in
theorem next_ok (hN : 1300 ≤ N) (h : RunOk r) : ∃ x : Int, dead_run_next N r = some x ∧ NextOk r x := by
 have hmost := h.chk.most
 unfold dead_run_next
 have hl := loop_ret0 (F := dead_run_next_l1 N r) (len := r.c.length) (m := N) (fun k => if dead_run_can N r (k : Int) = some true then some (k : Int) else none) (by omega)
  (fun m k hk => by rw [dead_run_next_l1, if_neg (by simpa using hk)])
  (fun m k hk => by
   have hR : inR ((k : Int) + 1) := inR_small (by omega) (by omega)
   obtain ⟨b, a, hb, _⟩ := can_ok hN h (List.getElem?_eq_getElem hk)
   rw [dead_run_next_l1, if_pos (by simpa using hk), hb, Option.bind_some]
   cases b
   ·rw [if_neg (by simp), chk_t hR, if_neg (by simp)]; rfl
   ·rw [if_pos rfl, if_pos rfl])
 rcases hl with ⟨e, _⟩ | ⟨k, x, hk, hg, e, _⟩
 ·rw [e]; exact ⟨-1, rfl, Or.inl rfl⟩
 ·rw [e]
  obtain ⟨b, a, hb, ha, _, hlt⟩ := can_ok hN h (List.getElem?_eq_getElem hk)
  by_cases hc : dead_run_can N r (k : Int) = some true
  ·rw [if_pos hc] at hg
   cases hg
   rw [hb] at hc
   exact ⟨_, rfl, Or.inr ⟨k, _, a, rfl, List.getElem?_eq_getElem hk, ha, hlt (Option.some.inj hc)⟩⟩
  ·rw [if_neg hc] at hg; cases hg
end

def rest : List (List Deed) → List Int → Nat
 | l :: c, a :: av => (l.length - a.toNat) + rest c av
 | _, _ => 0
theorem rest_set : ∀ (c : List (List Deed)) (av : List Int) (k : Nat) (l : List Deed) (a : Nat), c[k]? = some l → av[k]? = some (a : Int) → a < l.length → rest c (av.set k ((a : Int) + 1)) + 1 = rest c av
 | [], _, k, l, a, h, _, _ => by simp at h
 | _ :: _, [], k, l, a, _, h, _ => by simp at h
 | x :: c, y :: av, 0, l, a, h1, h2, h3 => by
  simp at h1 h2
  subst h1 h2
  simp only [List.set_cons_zero, rest]
  omega
 | x :: c, y :: av, k + 1, l, a, h1, h2, h3 => by
  simp at h1 h2
  have := rest_set c av k l a h1 h2 h3
  simp only [List.set_cons_succ, rest]
  omega
theorem rest_le : ∀ (c : List (List Deed)) (av : List Int), (∀ l ∈ c, l.length ≤ 200) → rest c av ≤ 200 * c.length
 | [], _, _ => by simp [rest]
 | _ :: _, [], _ => by simp [rest]
 | x :: c, y :: av, h => by
  have h1 := rest_le c av (fun l hl => h l (by simp [hl]))
  have h2 := h x (by simp)
  simp only [rest, List.length_cons]
  omega

section
variable {N : Nat} {r : Run}
theorem RunOk.step (h : RunOk r) {k a : Nat} {l : List Deed} (hl : r.c[k]? = some l) (ha : r.at_[k]? = some (a : Int)) (hlt : a < l.length) : RunOk (Run.with_at_ r (r.at_.set k ((a : Int) + 1))) := by
 refine ⟨h.chk, h.shut, by show (r.at_.set k _).length = _; rw [List.length_set]; exact h.len, fun j lj hj => ?_⟩
 show ∃ a' : Nat, (r.at_.set k ((a : Int) + 1))[j]? = some (a' : Int) ∧ a' ≤ lj.length
 by_cases e : k = j
 ·subst e
  have hlj : r.c[k]? = some lj := hj
  rw [hl] at hlj
  cases hlj
  refine ⟨a + 1, ?_, hlt⟩
  rw [List.getElem?_set_self (List.getElem?_eq_some_iff.1 ha).1]; rfl
 ·rw [List.getElem?_set_ne e]
  exact h.rng j lj hj
theorem finish_l1_ok (hN : 1300 ≤ N) : ∀ (m : Nat) (out : List Int) (x : Int) (av : List Int), RunOk (Run.with_at_ r av) → NextOk (Run.with_at_ r av) x → rest r.c av < m → out.length + rest r.c av ≤ 10000 →
  ∃ out' av', dead_run_finish_l1 N r m out x av = some (out', av') ∧ RunOk (Run.with_at_ r av') := by
 intro m
 induction m with
 | zero => intro out x av _ _ h; omega
 | succ m ih =>
  intro out x av h hx hm ho
  rw [dead_run_finish_l1]
  rcases hx with rfl | ⟨k, l, a, rfl, hl, ha, hlt⟩
  ·rw [if_neg (by simp)]; exact ⟨_, _, rfl, h⟩
  ·have hl' : r.c[k]? = some l := hl
   have ha' : av[k]? = some (a : Int) := ha
   have h200 := h.chk.rows l (List.mem_of_getElem? hl)
   have hR : inR ((a : Int) + 1) := inR_small (by omega) (by omega)
   have hs := rest_set r.c av k l a hl' ha' hlt
   have hstep : RunOk (Run.with_at_ r (av.set k ((a : Int) + 1))) := h.step hl ha hlt
   obtain ⟨y, hy, hyo⟩ := next_ok hN hstep
   have hc : (out.length + ([(k : Int)] : List Int).length) * 8 ≤ 140737488355328 ∧ out.length + ([(k : Int)] : List Int).length ≤ maxLen := by
    rw [List.length_singleton]
    exact ⟨by omega, small_len (by omega)⟩
   rw [if_pos (by simp), idx_nat, ha', Option.bind_some, chk_t hR, Option.bind_some, chk_t hc, show (k : Int).toNat = k from Int.toNat_natCast k, hy, Option.bind_some]
   exact ih _ _ _ hstep hyo (by omega) (by rw [List.length_append, List.length_singleton]; omega)
theorem finish_ok (hN : 1300 ≤ N) (h : RunOk r) (h6 : r.c.length ≤ 6) : ∃ out av, dead_run_finish N r = some (out, av) ∧ RunOk (Run.with_at_ r av) := by
 unfold dead_run_finish
 obtain ⟨x, hx, hxo⟩ := next_ok hN h
 have hr := rest_le r.c r.at_ h.chk.rows
 have e : Run.with_at_ r r.at_ = r := rfl
 rw [e, hx, Option.bind_some]
 obtain ⟨out, av, h1, h2⟩ := finish_l1_ok (r := r) hN N [] x r.at_ h hxo (by omega) (by simp; omega)
 rw [h1]
 exact ⟨out, av, rfl, h2⟩
end

structure CaseOk (c : List (List Deed)) : Prop where
 chk : CheckOk c
 shut : ∀ l ∈ c, ∀ d ∈ l, openS d = false
 six : c.length ≤ 6
section
variable {N : Nat} {c : List (List Deed)}
theorem newRun_ok (hN : 1300 ≤ N) (h : CaseOk c) {room : Int} (h0 : 0 ≤ room) : ∃ r : Run, dead_newRun N c room = some (some r, 0) ∧ r.c = c ∧ r.room = room ∧ RunOk r := by
 unfold dead_newRun
 have h6 := h.six
 rw [check_0 hN h.chk, Option.bind_some, if_neg (by simp)]
 have e1 : (fun x => dead_open N x) = fun x => some (openS x) := funext (open_eq N)
 have hl := loop_ret0 (F := dead_newRun_l1 N c) (len := c.length) (m := N) (fun k => (none : Option (Option Run × Int))) (by omega)
  (fun m k hk => by rw [dead_newRun_l1, if_neg (by simpa using hk)])
  (fun m k hk => by
   have hR : inR ((k : Int) + 1) := inR_small (by omega) (by omega)
   have hm := List.getElem_mem hk
   have hrow := h.chk.rows _ hm
   have hany : c[k].any openS = false := by rw [List.any_eq_false]; intro d hd; rw [h.shut _ hm d hd]; simp
   rw [dead_newRun_l1, if_pos (by simpa using hk), idx_nat, List.getElem?_eq_getElem hk, Option.bind_some, e1, cfun_eq N c[k] openS hN (by omega), Option.bind_some, hany, if_neg (by simp), chk_t hR]; rfl)
 rcases hl with ⟨e, _⟩ | ⟨k, x, hk, hg, e, _⟩
 ·rw [e, Option.bind_some]
  dsimp only
  rw [if_neg (by simpa using h0), chk_t ⟨by omega, by omega, by omega⟩]
  refine ⟨_, rfl, rfl, rfl, h.chk, h.shut, by show (List.replicate (c.length : Int).toNat (0 : Int)).length = c.length; simp, fun k l hk => ⟨0, ?_, by omega⟩⟩
  show (List.replicate (c.length : Int).toNat (0 : Int))[k]? = some 0
  have hkk : c[k]? = some l := hk
  have := (List.getElem?_eq_some_iff.1 hkk).1
  rw [List.getElem?_replicate, if_pos (by simpa using this)]
 ·cases hg
theorem End_ok (hN : 1300 ≤ N) (h : CaseOk c) {room : Int} (h0 : 0 ≤ room) : ∃ av, dead_End N c room = some (av, 0) ∧ RunOk ⟨c, room, av⟩ := by
 obtain ⟨r, h1, h2, h3, h4⟩ := newRun_ok hN h h0
 obtain ⟨out, av, h5, h6⟩ := finish_ok hN h4 (by rw [h2]; exact h.six)
 unfold dead_End
 rw [h1, Option.bind_some, if_neg (by simp), Option.bind_some, show Run.with_at_ r r.at_ = r from rfl, h5]
 subst h2 h3
 exact ⟨av, rfl, h6⟩
open Classical in
theorem comes_ok (hN : 1300 ≤ N) (h : CaseOk c) {room : Int} (h0 : 0 ≤ room) : ∃ b, dead_comes N c room = some b := by
 obtain ⟨av, h1, h2⟩ := End_ok hN h h0
 have hlen : av.length = c.length := h2.len
 have h6 := h.six
 unfold dead_comes
 rw [h1, Option.bind_some]
 have hl := loop_ret0 (F := dead_comes_l1 N c (av, 0)) (len := av.length) (m := N) (fun k => if idx av (k : Int) < (idx c (k : Int)).map (fun l => (l.length : Int)) then some false else none) (by omega)
  (fun m k hk => by rw [dead_comes_l1, if_neg (by simpa using hk)])
  (fun m k hk => by
   have hR : inR ((k : Int) + 1) := inR_small (by omega) (by omega)
   have hkc : k < c.length := by omega
   rw [dead_comes_l1, if_pos (by simpa using hk), idx_nat, List.getElem?_eq_getElem hk, Option.bind_some, idx_nat, List.getElem?_eq_getElem hkc, Option.bind_some]
   by_cases hc : av[k] < (c[k].length : Int)
   ·rw [if_pos (by simpa using hc), if_pos (by simpa using hc)]
   ·rw [if_neg (by simpa using hc), if_neg (by simpa using hc), chk_t hR]; rfl)
 rcases hl with ⟨e, _⟩ | ⟨k, x, hk, hg, e, _⟩
 ·rw [e]; exact ⟨_, rfl⟩
 ·rw [e]; exact ⟨_, rfl⟩
theorem Decide_un {c0 l : List (List Deed)} (hn : dead_Narrow N c0 = some (l, false, 0)) : dead_Decide N c0 = some (⟨4, 0⟩, 0) := by
 unfold dead_Decide
 rw [hn, Option.bind_some, if_neg (by simp), if_pos (by simp)]; rfl
end
end Go.Arm
