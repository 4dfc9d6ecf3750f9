/- Worlds of the program and walks of its functions. -/
import Derived.Test.YtmehemeoaplepaaZq
namespace Go.Mt
open Go.Arm
def en1 (n : Nat) : En := ⟨0, 0, 1, n, 0⟩
def zs (n : Nat) : By := List.replicate n 0
abbrev Mg := Nat × Option Nat
def pk1 : Mg → Pk
 | (n, none) => .eager (en1 n) (zs n)
 | (n, some q) => .ask (en1 n) q
def ms1 : Mg → Ms
 | (n, none) => .eager (en1 n) (zs n)
 | (n, some q) => .ask (en1 n) q
def bk1 : Mg → Pk
 | (_, none) => .credit
 | (_, some q) => .clear q
def bd1 : Mg → Option Pk
 | (_, none) => none
 | (n, some q) => some (.body q (zs n))
def qs (l : List Mg) : List Nat := l.filterMap (·.2)
def aq (no n : Nat) (act dn : Bool) : Rq := ⟨no, 1, 0, 1, 0, true, false, false, act, dn, 0, 0, zs n, [], 0, [], false, ⟨1, 1, n, 0⟩⟩
def sq0 : Rq := ⟨0, 1, 0, 1, 0, true, false, false, false, false, 0, 0, [], [], 0, [], false, St.z⟩
def tq0 : Rq := ⟨0, 0, 0, 1, 20, false, false, false, false, false, 0, 0, [], [], 0, [], false, St.z⟩
def exs (E : List (Nat × Nat)) : List ((Int × Int) × Nat) := E.map fun e => ((0, (e.1 : Int)), e.2)
def pa (na : Nat) (Q : List Nat) (x y : Int) : Pr := ⟨na, Q, [], [], [], [], [x, y]⟩
def pb (nb : Nat) (rb : List Nat) (E : List (Nat × Nat)) (m : List Ms) (x y : Int) : Pr := ⟨nb, rb, exs E, [], m, [], [x, y]⟩
theorem zs_len (n : Nat) : (zs n).length = n := List.length_replicate
theorem z_big {n : Nat} (h : n < 20) : (zs n).length < big := by rw [zs_len]; exact Nat.lt_trans h (by decide)
section
variable {K : Wd} {f g : Nat → Rq} {a b : Pr} {u v : List Pk} {na nb n no : Nat} {Q rb : List Nat} {x y x' y' : Int}
theorem add0 {r : Rq} (hn : na < big) (hq : na ∉ Q) : (T2 K (pa na Q x y) b f g u v).add 0 r = some (T2 K (pa (na + 1) (Q ++ [na]) x y) b (ups f na { r with no := na }) g u v) := by
 unfold Wd.add
 rw [T2.pr0_]
 unfold pa
 dsimp only
 rw [if_pos ⟨hn, hq⟩, T2.setPr0, T2.setRq0, T2.setPr0]
theorem add1 {E : List (Nat × Nat)} {m : List Ms} {r : Rq} (hn : nb < big) (hq : nb ∉ rb) : (T2 K a (pb nb rb E m x y) f g u v).add 1 r = some (T2 K a (pb (nb + 1) (rb ++ [nb]) E m x y) f (ups g nb { r with no := nb }) u v) := by
 unfold Wd.add
 rw [T2.pr1_]
 unfold pb
 dsimp only
 rw [if_pos ⟨hn, hq⟩, T2.setPr1, T2.setRq1, T2.setPr1]
theorem start_s (hf : f no = { sq0 with no := no }) (hn : n < 20) : (T2 K (pa na Q x y) b f g u v).start 0 no (zs n) = (T2 K (pa na Q x y) b (ups f no (aq no n true false)) g u v).send 0 no (en1 n) := by
 have hb := z_big hn
 have h0 : (0 : Nat) < big := by decide
 unfold Wd.start
 rw [T2.rq0_, T2.pr0_, hf]
 unfold sq0 pa
 dsimp only
 rw [if_neg (fun h => h ⟨by show 0 * 0 < big; exact h0, hb, h0, Int.le_refl _⟩), if_pos rfl, T2.setRq0]
 unfold aq en1
 rw [zs_len]
 rfl
theorem send_e (hu : u.length < big) (hf : f no = aq no n true false) (hl : (n : Int) ≤ K.lim) (hy : 0 < y) (hyb : y < big) :
  (T2 K (pa na Q x y) b f g u v).send 0 no (en1 n) = some (T2 K (pa na Q x (y - 1)) b (ups f no (aq no n true true)) g (u ++ [pk1 (n, none)]) v) := by
 unfold Wd.send
 rw [T2.rq0_, T2.pr0_, hf]
 unfold aq pa en1
 dsimp only
 have hg : ([x, y] : List Int).getD (Int.toNat 1) 0 = y := rfl
 rw [if_neg (by decide), if_neg (by rintro (h | h | h); cases h; exact (Nat.lt_irrefl 0 h); exact absurd h (Int.not_lt.2 hl)), if_pos (by simp), hg, if_neg (by omega), if_pos ⟨hy, hyb⟩]
 rw [T2.setPr0]
 show Option.map _ (Wd.put _ 0 1 _) = _
 rw [T2.put01 hu]
 show some (Wd.setRq _ 0 no _) = _
 rw [T2.setRq0]
 rfl
theorem send_a (hu : u.length < big) (hf : f no = aq no n true false) (hl : ¬ ((n : Int) ≤ K.lim ∧ 0 < y)) (hy : 0 ≤ y) :
   (T2 K (pa na Q x y) b f g u v).send 0 no (en1 n) = some (T2 K (pa na Q x y) b f g (u ++ [pk1 (n, some no)]) v) := by
 unfold Wd.send
 rw [T2.rq0_, T2.pr0_, hf]
 unfold aq pa en1
 dsimp only
 have hg : ([x, y] : List Int).getD (Int.toNat 1) 0 = y := rfl
 rw [if_neg (by decide)]
 by_cases h1 : (n : Int) ≤ K.lim
 · have hy0 : y = 0 := by
    by_cases h2 : 0 < y
    · exact (hl ⟨h1, h2⟩).elim
    · omega
   rw [if_neg (by rintro (h | h | h); cases h; exact (Nat.lt_irrefl 0 h); exact absurd h (Int.not_lt.2 h1)), if_pos (by simp), hg, if_pos hy0]
   show Wd.put _ 0 1 _ = _
   rw [T2.put01 hu]
   rfl
 · rw [if_pos (.inr (.inr (Int.not_le.1 h1)))]
   show Wd.put _ 0 1 _ = _
   rw [T2.put01 hu]
   rfl
theorem over_s {dn : Bool} {Q' : List Nat} (hf : f no = aq no n true dn) (hq : Q.erase no = Q') : (T2 K (pa na Q x y) b f g u v).over 0 no = T2 K (pa na Q' x y) b (ups f no (aq no n false dn)) g u v := by
 unfold Wd.over
 rw [T2.rq0_, T2.pr0_, hf]
 unfold aq pa
 dsimp only
 rw [if_neg (by decide), T2.setRq0, T2.setPr0, hq]
theorem came_s {m : Ms} {E : List (Nat × Nat)} {ml : List Ms} (hm : ml.length < big) : (T2 K a (pb nb rb E ml x y) f g u v).came 1 m = some (T2 K a (pb nb rb E (ml ++ [m]) x y) f g u v) := by
 unfold Wd.came
 rw [T2.pr1_]
 unfold pb
 dsimp only
 rw [if_neg (fun h => h ⟨fun no hno => (by cases hno), by show 0 < big; decide⟩)]
 rw [show (List.findIdx? (fun no => ((T2 K a _ f g u v).rq 1 no).fits m.en) []) = none from rfl]
 dsimp only
 rw [if_pos hm, T2.setPr1]
theorem comes {E : List (Nat × Nat)} : ∀ (l : List Mg) (ml : List Ms), ml.length + l.length < big → Wd.handles 1 (T2 K a (pb nb rb E ml x y) f g u v) (l.map fun z => ((0 : Int), pk1 z)) = some (T2 K a (pb nb rb E (ml ++ l.map ms1) x y) f g u v)
 | [], ml, _ => by rw [List.map_nil, List.map_nil, List.append_nil]; rfl
 | z :: l, ml, h => by
  rw [List.length_cons] at h
  have hm : ml.length < big := by omega
  have h1 : (T2 K a (pb nb rb E ml x y) f g u v).handle 1 0 (pk1 z) = some (T2 K a (pb nb rb E (ml ++ [ms1 z]) x y) f g u v) := by
   obtain ⟨n, _ | q⟩ := z
   · exact came_s hm
   · exact came_s hm
  rw [List.map_cons]
  unfold Wd.handles
  rw [h1]
  dsimp only
  rw [comes l (ml ++ [ms1 z]) (by rw [List.length_append, List.length_singleton]; omega), List.append_assoc]
  rfl
theorem settle_s {l : List Mg} (hl : l.length < 200) : Wd.Settles 0 (T2 K (pa na Q x y) (pb nb rb [] [] x' y') f g (l.map pk1) []) (T2 K (pa na Q x y) (pb nb rb [] (l.map ms1) x' y') f g [] []) := by
 have h2 : 200 < big := by decide
 refine .last (T2.rnd rfl rfl (by rw [List.length_map]; exact hl) (by simp) rfl ?_) (T2.quiet rfl rfl)
 rw [T2.call1 rfl (by rw [List.length_map, List.length_map]; omega), List.map_map]
 exact comes l [] (by rw [List.length_nil]; omega)
theorem fits_s {no : Nat} {st : St} {q : Mg} {act dn : Bool} {d : By} : ({ tq0 with no := no, act := act, done := dn, st := st, data := d } : Rq).fits (ms1 q).en = true := by
 obtain ⟨n, _ | k⟩ := q
 · rfl
 · rfl
theorem kset_new : ∀ (E : List (Nat × Nat)) (q no : Nat), q ∉ E.map (·.1) → kset (exs E) (0, (q : Int)) no = exs (E ++ [(q, no)])
 | [], q, no, _ => rfl
 | e :: E, q, no, h => by
  have h1 : q ≠ e.1 := fun h2 => h (by rw [h2]; exact List.mem_cons_self)
  have h2 : ((0 : Int), (e.1 : Int)) ≠ (0, (q : Int)) := fun h3 => h1 (by have := (Prod.mk.inj h3).2; omega)
  show kset (((0, (e.1 : Int)), e.2) :: exs E) (0, (q : Int)) no = _
  unfold kset
  rw [if_neg h2, kset_new E q no (fun h3 => h (List.mem_cons_of_mem _ h3))]
  rfl
theorem start_t {x : Mg} {l : List Mg} {E : List (Nat × Nat)} {cx cy : Int} (hv : v.length < big) (hml : (x :: l).length < big) (hx : x.1 < 20) (hq : ∀ q, x.2 = some q → q ∉ E.map (·.1)) (hg : g no = { tq0 with no := no }) :
   ∃ r E', r.no = no ∧ r.room = 20 ∧ (x.2 = none → E' = E) ∧ (∀ q, x.2 = some q → E' = E ++ [(q, no)]) ∧ (T2 K a (pb nb rb E ((x :: l).map ms1) cx cy) f g u v).start 1 no [] = some (T2 K a (pb nb rb E' (l.map ms1) cx cy) f (ups g no r) u (v ++ [bk1 x])) := by
 have h0 : (0 : Nat) < big := by decide
 have hst : ∀ W', (((T2 K a (pb nb rb E ((x :: l).map ms1) cx cy) f g u v).setRq 1 no { tq0 with no := no, act := true }).setPr 1 { pb nb rb E ((x :: l).map ms1) cx cy with msgs := l.map ms1 }).mtch 1 no (ms1 x) = some W' →
     (T2 K a (pb nb rb E ((x :: l).map ms1) cx cy) f g u v).start 1 no [] = some W' := fun W' h => by
   unfold Wd.start
   rw [T2.rq1_, T2.pr1_, hg]
   unfold tq0 pb
   dsimp only
   rw [if_neg (fun h => h ⟨by show 0 * 0 < big; exact h0, h0, by show ((x :: l).map ms1).length < big; rw [List.length_map]; exact hml, by decide⟩), if_neg (by decide), if_neg (by decide)]
   rw [show (List.findIdx? (fun m => Rq.fits { no := no, peer := 0, ctx := 0, tag := 1, room := 20, send := false, sync := false, pers := false, act := true, done := false, parts := 0, size := 0, data := [], pcs := [], gone := 0, sent := [], clr := false, st := St.z } m.en) ((x :: l).map ms1)) = some 0 by
     rw [List.map_cons, List.findIdx?_cons]
     have := fits_s (no := no) (st := St.z) (q := x) (act := true) (dn := false) (d := [])
     unfold tq0 at this
     dsimp only at this
     rw [this]; rfl]
   exact h
 obtain ⟨n, _ | q⟩ := x
 · refine ⟨Rq.gets { tq0 with no := no, act := true, st := ⟨0, 1, n, 0⟩ } (zs n), E, ?_, ?_, fun _ => rfl, fun q h => (by cases h), hst _ ?_⟩
   · unfold Rq.gets; split <;> rfl
   · unfold Rq.gets; split <;> rfl
   · rw [T2.setRq1, T2.setPr1]
     unfold Wd.mtch ms1
     dsimp only
     rw [if_pos ⟨z_big hx, by rw [T2.rq1_, ups_at]; show (0 : Int) ≤ 20; decide⟩, T2.setRq1, T2.rq1_, ups_at, ups_ups]
     show Wd.put _ 1 0 _ = _
     rw [T2.put10 hv]
     rfl
 · refine ⟨{ tq0 with no := no, act := true, st := ⟨0, 1, n, 0⟩ }, E ++ [(q, no)], rfl, rfl, fun h => (by cases h), fun q' h => (by cases h; rfl), hst _ ?_⟩
   rw [T2.setRq1, T2.setPr1]
   unfold Wd.mtch ms1
   dsimp only
   rw [T2.setRq1, T2.rq1_, ups_at, ups_ups, T2.pr1_, T2.setPr1]
   show Wd.put _ 1 0 _ = _
   rw [T2.put10 hv]
   unfold pb
   dsimp only
   rw [show kset (exs E) ((en1 n).src, (q : Int)) no = exs (E ++ [(q, no)]) from kset_new E q no (hq q rfl)]
   rfl
theorem backs {b : Pr} : ∀ (l : List Mg) (f : Nat → Rq) (u : List Pk) (y : Int), u.length + l.length < big → 0 ≤ y → y + l.length < big → (∀ n q, (n, some q) ∈ l → f q = aq q n true false ∧ q ∈ Q) → (qs l).Nodup →
  ∃ f', Wd.handles 0 (T2 K (pa na Q x y) b f g u v) (l.map fun z => ((1 : Int), bk1 z)) = some (T2 K (pa na Q x (y + (l.length - (qs l).length : Nat))) b f' g (u ++ l.filterMap bd1) v) ∧
    (∀ n q, (n, some q) ∈ l → f' q = aq q n true true) ∧ ∀ q, q ∉ qs l → f' q = f q
 | [], f, u, y, _, _, _, _, _ => ⟨f, by simp [Wd.handles, qs], fun n q h => (by cases h), fun q _ => rfl⟩
 | (n, none) :: l, f, u, y, h1, h2, h3, h4, h5 => by
  rw [List.length_cons] at h1 h3
  have hq : qs ((n, none) :: l) = qs l := rfl
  rw [hq] at h5 ⊢
  have e1 : (T2 K (pa na Q x y) b f g u v).handle 0 1 .credit = some (T2 K (pa na Q x (y + 1)) b f g u v) := by
    unfold Wd.handle
    rw [T2.pr0_]
    unfold pa
    dsimp only
    have hg : ([x, y] : List Int).getD (Int.toNat 1) 0 = y := rfl
    rw [hg, if_pos ⟨by decide, by simp, by omega, h2⟩, T2.setPr0]
    rfl
  obtain ⟨f', e2, h6, h7⟩ := backs l f u (y + 1) (by omega) (by omega) (by omega) (fun n q h => h4 n q (List.mem_cons_of_mem _ h)) h5
  have hle : (qs l).length ≤ l.length := List.length_filterMap_le _ _
  refine ⟨f', ?_, fun n' q h => ?_, h7⟩
  · rw [List.map_cons]
    unfold Wd.handles
    rw [show bk1 (n, none) = .credit from rfl, e1]
    dsimp only
    rw [e2, List.length_cons, show (l.length + 1 - (qs l).length : Nat) = (l.length - (qs l).length) + 1 by omega, show (y + 1 + ((l.length - (qs l).length : Nat) : Int)) = y + ((l.length - (qs l).length + 1 : Nat) : Int) by omega]
    rfl
  · rcases List.mem_cons.1 h with e | e
    · cases e
    · exact h6 n' q e
 | (n, some k) :: l, f, u, y, h1, h2, h3, h4, h5 => by
  rw [List.length_cons] at h1 h3
  have hq : qs ((n, some k) :: l) = k :: qs l := rfl
  rw [hq] at h5 ⊢
  obtain ⟨h8, h9⟩ := List.nodup_cons.1 h5
  obtain ⟨hf, hk⟩ := h4 n k List.mem_cons_self
  have e1 : (T2 K (pa na Q x y) b f g u v).handle 0 1 (.clear (k : Int)) = some (T2 K (pa na Q x y) b (ups f k (aq k n true true)) g (u ++ [.body k (zs n)]) v) := by
    unfold Wd.handle
    dsimp only
    rw [T2.pr0_, T2.rq0_, Int.toNat_natCast, hf]
    unfold aq pa
    dsimp only
    rw [if_pos ⟨by omega, hk⟩, if_pos rfl]
    show Option.map _ (Wd.put _ 0 1 (.body k (zs n))) = _
    rw [T2.put01 (by omega)]
    show some (Wd.setRq _ 0 k _) = _
    rw [T2.setRq0, T2.rq0_]
    show some (T2 K _ b (ups f k { f k with done := true }) g _ v) = _
    rw [hf]
    rfl
  have hne : ∀ q, q ∈ qs l → q ≠ k := fun q hq e => h8 (e ▸ hq)
  have hin : ∀ n' q, (n', some q) ∈ l → q ∈ qs l := fun n' q h => List.mem_filterMap.2 ⟨_, h, rfl⟩
  obtain ⟨f', e2, h6, h7⟩ := backs l (ups f k (aq k n true true)) (u ++ [.body k (zs n)]) y (by rw [List.length_append, List.length_singleton]; omega) h2 (by omega) (fun n' q h => by
    rw [ups_ne _ _ (hne q (hin n' q h))]; exact h4 n' q (List.mem_cons_of_mem _ h)) h9
  refine ⟨f', ?_, fun n' q h => ?_, fun q hq => ?_⟩
  · rw [List.map_cons]
    unfold Wd.handles
    rw [show bk1 (n, some k) = .clear k from rfl, e1]
    dsimp only
    rw [e2, List.length_cons, List.length_cons, Nat.add_sub_add_right, List.append_assoc]
    rfl
  · rcases List.mem_cons.1 h with e | e
    · cases e
      rw [h7 k h8, ups_at]
    · exact h6 n' q e
  · have h10 : q ≠ k := fun e => hq (e ▸ List.mem_cons_self)
    rw [h7 q (fun h => hq (List.mem_cons_of_mem _ h)), ups_ne _ _ h10]
theorem kget_head (e : Nat × Nat) (E : List (Nat × Nat)) : kget (exs (e :: E)) (0, (e.1 : Int)) = some e.2 := by
 show kget (((0, (e.1 : Int)), e.2) :: exs E) (0, (e.1 : Int)) = _
 unfold kget
 rw [if_pos rfl]
end
end Go.Mt
namespace Go.Mt
open Go.Arm
theorem gets_room (r : Rq) (d : By) : (r.gets d).room = r.room := by
 unfold Rq.gets; split <;> rfl
theorem takes {K : Wd} {f : Nat → Rq} {a : Pr} {u v : List Pk} {nb : Nat} {rb : List Nat} {x y : Int} : ∀ (l : List Mg) (E : List (Nat × Nat)) (g : Nat → Rq), E.map (·.1) = qs l → (∀ e, e ∈ E → (g e.2).room = 20) → (∀ z, z ∈ l → z.1 < 20) →
  ∃ g', Wd.handles 1 (T2 K a (pb nb rb E [] x y) f g u v) ((l.filterMap bd1).map fun z => ((0 : Int), z)) = some (T2 K a (pb nb rb [] [] x y) f g' u v)
 | [], E, g, h1, _, _ => by
  have : E = [] := List.map_eq_nil_iff.1 h1
  subst this
  exact ⟨g, rfl⟩
 | (n, none) :: l, E, g, h1, h2, h3 => takes l E g h1 h2 fun z hz => h3 z (List.mem_cons_of_mem _ hz)
 | (n, some q) :: l, [], g, h1, h2, h3 => by cases h1
 | (n, some q) :: l, e :: E, g, h1, h2, h3 => by
  have h4 : e.1 = q ∧ E.map (·.1) = qs l := List.cons.inj h1
  obtain ⟨rfl, h5⟩ := h4
  have hr := h2 e List.mem_cons_self
  have e1 : (T2 K a (pb nb rb (e :: E) [] x y) f g u v).handle 1 0 (.body (e.1 : Int) (zs n)) = some (T2 K a (pb nb rb E [] x y) f (ups g e.2 ((g e.2).gets (zs n))) u v) := by
   unfold Wd.handle
   dsimp only
   rw [T2.pr1_]
   unfold pb
   dsimp only
   rw [kget_head e E]
   dsimp only
   rw [T2.rq1_, if_pos ⟨z_big (h3 _ List.mem_cons_self), by rw [hr]; decide⟩, T2.setRq1, T2.setPr1]
   have : kdel (exs (e :: E)) (0, (e.1 : Int)) = exs E := by
     show kdel (((0, (e.1 : Int)), e.2) :: exs E) (0, (e.1 : Int)) = _
     unfold kdel
     rw [if_pos rfl]
   rw [this]
  obtain ⟨g', e2⟩ := takes l E (ups g e.2 ((g e.2).gets (zs n))) h5 (fun e' he' => by
   by_cases h6 : e'.2 = e.2
   · rw [h6, ups_at, gets_room]; exact hr
   · rw [ups_ne _ _ h6]; exact h2 e' (List.mem_cons_of_mem _ he')) (fun z hz => h3 z (List.mem_cons_of_mem _ hz))
  refine ⟨g', ?_⟩
  show Wd.handles 1 _ ((0, .body (e.1 : Int) (zs n)) :: (l.filterMap bd1).map fun z => ((0 : Int), z)) = _
  unfold Wd.handles
  rw [e1]
  exact e2
theorem quiet_r {K : Wd} {f : Nat → Rq} {na nb : Nat} {Q rb : List Nat} {x y x' y' : Int} {l : List Mg} {E : List (Nat × Nat)} {g : Nat → Rq} (hl : l.length ≤ 30) (hy : 0 ≤ y) (hy2 : y ≤ 64) (hf : ∀ n q, (n, some q) ∈ l → f q = aq q n true false ∧ q ∈ Q) (hn : (qs l).Nodup)
  (hE : E.map (·.1) = qs l) (hg : ∀ e, e ∈ E → (g e.2).room = 20) (hz : ∀ z, z ∈ l → z.1 < 20) :
  ∃ k f' g', k < 2000 ∧ Wd.Settles k (T2 K (pa na Q x y) (pb nb rb E [] x' y') f g [] (l.map bk1)) (T2 K (pa na Q x (y + (l.length - (qs l).length : Nat))) (pb nb rb [] [] x' y') f' g' [] []) ∧
   (∀ n q, (n, some q) ∈ l → f' q = aq q n true true) := by
 have hb : 1000 < big := by decide
 obtain ⟨f', e1, h1, _⟩ := backs (K := K) (g := g) (na := na) (x := x) (v := []) (b := pb nb rb E [] x' y') l f [] y (by rw [List.length_nil]; omega) hy (by omega) hf hn
 obtain ⟨g', e2⟩ := takes (K := K) (a := pa na Q x (y + (l.length - (qs l).length : Nat))) (f := f') (u := []) (v := []) (nb := nb) (rb := rb) (x := x') (y := y') l E g hE hg hz
 rw [List.nil_append] at e1
 have r1 : (T2 K (pa na Q x y) (pb nb rb E [] x' y') f g [] (l.map bk1)).rnd = some (T2 K (pa na Q x (y + (l.length - (qs l).length : Nat))) (pb nb rb E [] x' y') f' g (l.filterMap bd1) []) := by
  refine T2.rnd rfl rfl (by simp) (by rw [List.length_map]; omega) ?_ (T2.rest1 rfl)
  rw [List.map_map]
  exact e1
 cases hbd : l.filterMap bd1 with
 | nil =>
  rw [hbd] at r1 e2
  have hgs : T2 K (pa na Q x (y + (l.length - (qs l).length : Nat))) (pb nb rb E [] x' y') f' g [] [] = T2 K (pa na Q x (y + (l.length - (qs l).length : Nat))) (pb nb rb [] [] x' y') f' g' [] [] := Option.some.inj e2
  refine ⟨0, f', g', by decide, ?_, h1⟩
  rw [← hgs]
  exact .last r1 (T2.quiet rfl rfl)
 | cons z m =>
  have hlen : (z :: m).length ≤ 30 := by rw [← hbd]; exact Nat.le_trans (List.length_filterMap_le _ _) hl
  rw [hbd] at r1 e2
  refine ⟨1, f', g', by decide, .more r1 T2.loud0 (.last (T2.rnd rfl rfl (by omega) (by simp) rfl ?_) (T2.quiet rfl rfl)), h1⟩
  rw [T2.call1 rfl (by rw [List.length_map]; omega)]
  exact e2
end Go.Mt
namespace Go.Mt
open Go.Arm
structure Bd (A N na nb : Nat) (rb : List Nat) (c y : Int) : Prop where
 ha : na ≤ A
 hb : nb ≤ N
 hr : rb.length ≤ N
 lt : ∀ k, k ∈ rb → k < nb
 hy : 0 ≤ y
 hc : c ≤ 5
def S1 (K : Wd) (c : Int) (M : Nat) (l : List Mg) (y : Int) (W : Wd) : Prop := ∃ f g na nb rb x x' y', W = T2 K (pa na (qs l) x y) (pb nb rb [] [] x' y') f g (l.map pk1) [] ∧ Bd (M + l.length) M na nb rb c y ∧
 (∀ q, q ∈ qs l → q < na) ∧ (qs l).Nodup ∧ (∀ n q, (n, some q) ∈ l → f q = aq q n true false) ∧ (∀ z, z ∈ l → z.1 < 20) ∧ y + ((l.length - (qs l).length : Nat) : Int) = c
def S2 (K : Wd) (c : Int) (M : Nat) (l1 l2 : List Mg) (y : Int) (W : Wd) : Prop := ∃ f g na nb rb x x' y' E, W = T2 K (pa na (qs (l1 ++ l2)) x y) (pb nb rb E (l2.map ms1) x' y') f g [] (l1.map bk1) ∧ Bd (M + (l1 ++ l2).length) (M + l1.length) na nb rb c y ∧
 (∀ q, q ∈ qs (l1 ++ l2) → q < na) ∧ (qs (l1 ++ l2)).Nodup ∧ (∀ n q, (n, some q) ∈ l1 ++ l2 → f q = aq q n true false) ∧ (∀ z, z ∈ l1 ++ l2 → z.1 < 20) ∧ y + (((l1 ++ l2).length - (qs (l1 ++ l2)).length : Nat) : Int) = c ∧
 E.map (·.1) = qs l1 ∧ ∀ e, e ∈ E → (g e.2).room = 20 ∧ e.2 < nb
def S4 (K : Wd) (c : Int) (M : Nat) (Q : List Nat) (W : Wd) : Prop := ∃ f g na nb rb x x' y', W = T2 K (pa na Q x c) (pb nb rb [] [] x' y') f g [] [] ∧ Bd M M na nb rb c c ∧
 (∀ q, q ∈ Q → q < na) ∧ Q.Nodup ∧ ∀ q, q ∈ Q → ∃ n, f q = aq q n true true
theorem qs_app (l m : List Mg) : qs (l ++ m) = qs l ++ qs m := List.filterMap_append
theorem qs_le (l : List Mg) : (qs l).length ≤ l.length := List.length_filterMap_le _ _
theorem mem_qs {l : List Mg} {q : Nat} (h : q ∈ qs l) : ∃ n, (n, some q) ∈ l := by
 obtain ⟨⟨n, o⟩, h1, h2⟩ := List.mem_filterMap.1 h
 have h2 : o = some q := h2
 exact ⟨n, h2 ▸ h1⟩
theorem qs_mem {l : List Mg} {n q : Nat} (h : (n, some q) ∈ l) : q ∈ qs l := List.mem_filterMap.2 ⟨_, h, rfl⟩
section
variable {K W : Wd} {c y : Int} {M : Nat} {l l1 l2 : List Mg} {n : Nat}
theorem S1.send (H : S1 K c M l y W) (hM : M ≤ 31) (hl : l.length < 30) (hn : n < 20) :
   ∃ no W2 W3, W.n = 2 ∧ (W.pr 0).reqs.length < 256 ∧ W.call 0 = some W ∧ (W.pr 0).next = no ∧ W.add 0 sq0 = some W2 ∧ W2.start 0 no (zs n) = some W3 ∧ (W3.rq 0 no).no = no ∧
     W3.n = 2 ∧ no ∈ (W3.pr 0).reqs ∧ (W3.rq 0 no).act = true ∧ W3.call 0 = some W3 ∧ (W3.rq 0 no).send = true ∧
     ((((n : Int) ≤ K.lim ∧ 0 < y) ∧ (W3.rq 0 no).done = true ∧ S1 K c M (l ++ [(n, none)]) (y - 1) (W3.over 0 no)) ∨ (¬ ((n : Int) ≤ K.lim ∧ 0 < y) ∧ (W3.rq 0 no).done = false ∧ S1 K c M (l ++ [(n, some no)]) y W3)) := by
 obtain ⟨f, g, na, nb, rb, x, x', y', rfl, B, hq, hnd, hf, hz, hc⟩ := H
 have hb : 1000 < big := by decide
 have h1 := B.ha
 have h0 := B.hy
 have h5 := B.hc
 have hle := qs_le l
 have hni : na ∉ qs l := fun h => Nat.lt_irrefl _ (hq na h)
 have hul : (l.map pk1).length < big := by rw [List.length_map]; omega
 have hlen : ∀ z : Mg, (l ++ [z]).length = l.length + 1 := fun z => by rw [List.length_append]; rfl
 have hz' : ∀ o, ∀ z, z ∈ l ++ [(n, o)] → z.1 < 20 := fun o z h => by
   rcases List.mem_append.1 h with h | h
   · exact hz z h
   · rw [List.mem_singleton.1 h]; exact hn
 have Bn : ∀ z y2, 0 ≤ y2 → Bd (M + (l ++ [z]).length) M (na + 1) nb rb c y2 := fun z y2 h => by
   rw [hlen]; exact ⟨by omega, B.hb, B.hr, B.lt, h, B.hc⟩
 have hs := start_s (K := K) (g := g) (u := l.map pk1) (v := []) (b := pb nb rb [] [] x' y') (na := na + 1) (Q := qs l ++ [na]) (x := x) (y := y) (f := ups f na { sq0 with no := na }) (no := na) (ups_at _ _ _) hn
 rw [ups_ups] at hs
 by_cases he : (n : Int) ≤ K.lim ∧ 0 < y
 · have e := send_e (K := K) (g := g) (v := []) (b := pb nb rb [] [] x' y') (na := na + 1) (Q := qs l ++ [na]) (x := x) (y := y) (f := ups f na (aq na n true false)) (no := na) hul (ups_at _ _ _) he.1 he.2 (by omega)
   rw [ups_ups] at e
   refine ⟨na, _, _, rfl, ?_, T2.rest0 rfl, rfl, add0 (by omega) hni, hs.trans e, ?_, rfl, ?_, ?_, T2.rest0 rfl, ?_, .inl ⟨he, ?_, ?_⟩⟩
   · show (qs l).length < 256; omega
   · rw [T2.rq0_, ups_at]; rfl
   · exact List.mem_append_right _ (List.mem_singleton.2 rfl)
   · rw [T2.rq0_, ups_at]; rfl
   · rw [T2.rq0_, ups_at]; rfl
   · rw [T2.rq0_, ups_at]; rfl
   · rw [over_s (Q' := qs l) (ups_at _ _ _) (by rw [List.erase_append_right _ hni]; simp), ups_ups]
     have hqq : qs (l ++ [(n, none)]) = qs l := by rw [qs_app]; exact List.append_nil _
     refine ⟨ups f na (aq na n false true), g, na + 1, nb, rb, x, x', y', ?_, Bn _ _ (by omega), ?_, ?_, ?_, hz' _, ?_⟩
     · rw [hqq, List.map_append]; rfl
     · rw [hqq]; exact fun q h => Nat.lt_succ_of_lt (hq q h)
     · rw [hqq]; exact hnd
     · intro n' q h
       have h : (n', some q) ∈ l := by
         rcases List.mem_append.1 h with h | h
         · exact h
         · cases List.mem_singleton.1 h
       rw [ups_ne _ _ (fun e : q = na => hni (by rw [← e]; exact qs_mem h))]; exact hf n' q h
     · rw [hqq, hlen]; omega
 · have e := send_a (K := K) (g := g) (v := []) (b := pb nb rb [] [] x' y') (na := na + 1) (Q := qs l ++ [na]) (x := x) (y := y) (f := ups f na (aq na n true false)) (no := na) hul (ups_at _ _ _) he h0
   refine ⟨na, _, _, rfl, ?_, T2.rest0 rfl, rfl, add0 (by omega) hni, hs.trans e, ?_, rfl, ?_, ?_, T2.rest0 rfl, ?_, .inr ⟨he, ?_, ?_⟩⟩
   · show (qs l).length < 256; omega
   · rw [T2.rq0_, ups_at]; rfl
   · exact List.mem_append_right _ (List.mem_singleton.2 rfl)
   · rw [T2.rq0_, ups_at]; rfl
   · rw [T2.rq0_, ups_at]; rfl
   · rw [T2.rq0_, ups_at]; rfl
   · have hqq : qs (l ++ [(n, some na)]) = qs l ++ [na] := by rw [qs_app]; rfl
     refine ⟨ups f na (aq na n true false), g, na + 1, nb, rb, x, x', y', ?_, Bn _ _ h0, ?_, ?_, ?_, hz' _, ?_⟩
     · rw [hqq, List.map_append]; rfl
     · rw [hqq]; intro q h
       rcases List.mem_append.1 h with h | h
       · exact Nat.lt_succ_of_lt (hq q h)
       · rw [List.mem_singleton.1 h]; exact Nat.lt_succ_self _
     · rw [hqq]
       refine List.nodup_append.2 ⟨hnd, by simp, fun q h1 q' h2 e => ?_⟩
       rw [List.mem_singleton.1 h2] at e
       exact hni (e ▸ h1)
     · intro n' q h
       rcases List.mem_append.1 h with h | h
       · rw [ups_ne _ _ (fun e : q = na => hni (by rw [← e]; exact qs_mem h))]; exact hf n' q h
       · cases List.mem_singleton.1 h; rw [ups_at]
     · rw [hqq, hlen, List.length_append, List.length_singleton]; omega
theorem S1.settle (H : S1 K c M l y W) (hl : l.length ≤ 30) : ∃ W2, W.n = 2 ∧ Wd.Settles 0 W W2 ∧ S2 K c M [] l y W2 := by
 obtain ⟨f, g, na, nb, rb, x, x', y', rfl, B, hq, hnd, hf, hz, hc⟩ := H
 refine ⟨_, rfl, settle_s (by omega), f, g, na, nb, rb, x, x', y', [], rfl, B, hq, hnd, hf, hz, hc, rfl, fun e h => (by cases h)⟩
theorem S2.ask {q : Nat} (H : S2 K c M l1 l2 y W) (hq : q ∈ qs (l1 ++ l2)) : W.n = 2 ∧ q ∈ (W.pr 0).reqs ∧ (W.rq 0 q).act = true ∧ W.call 0 = some W ∧ (W.rq 0 q).done = false := by
 obtain ⟨f, g, na, nb, rb, x, x', y', E, rfl, B, _, hnd, hf, hz, hc, hE, hg⟩ := H
 obtain ⟨n, hn⟩ := mem_qs hq
 refine ⟨rfl, hq, ?_, T2.rest0 rfl, ?_⟩
 · rw [T2.rq0_, hf n q hn]; rfl
 · rw [T2.rq0_, hf n q hn]; rfl
theorem S2.recv {z : Mg} (H : S2 K c M l1 (z :: l2) y W) (hM : M ≤ 31) (hl : (l1 ++ z :: l2).length ≤ 30) :
   ∃ no W2 W3, W.n = 2 ∧ (W.pr 1).reqs.length < 256 ∧ W.call 1 = some W ∧ (W.pr 1).next = no ∧ W.add 1 tq0 = some W2 ∧ W2.start 1 no [] = some W3 ∧ S2 K c M (l1 ++ [z]) l2 y W3 := by
 obtain ⟨f, g, na, nb, rb, x, x', y', E, rfl, B, hq, hnd, hf, hz, hc, hE, hg⟩ := H
 have hb : 1000 < big := by decide
 have hcat : l1 ++ z :: l2 = (l1 ++ [z]) ++ l2 := by simp
 have hll : l1.length + (l2.length + 1) ≤ 30 := by rw [List.length_append, List.length_cons] at hl; exact hl
 have h1 := B.hb
 have h2 := B.hr
 have hni : nb ∉ rb := fun h => Nat.lt_irrefl _ (B.lt nb h)
 have hqn : ∀ q, z.2 = some q → q ∉ E.map (·.1) := fun q hz2 hm => by
   rw [hE] at hm
   rw [qs_app] at hnd
   refine (List.nodup_append.1 hnd).2.2 q hm q ?_ rfl
   exact List.mem_filterMap.2 ⟨z, List.mem_cons_self, hz2⟩
 obtain ⟨r, E', hr1, hr2, hE1, hE2, hs⟩ := start_t (K := K) (a := pa na (qs (l1 ++ z :: l2)) x y) (f := f) (g := ups g nb { tq0 with no := nb }) (u := []) (v := l1.map bk1) (nb := nb + 1) (rb := rb ++ [nb]) (E := E) (x := z) (l := l2) (cx := x') (cy := y') (no := nb)
   (by rw [List.length_map]; omega) (by rw [List.length_cons]; omega) (hz z (by simp)) hqn (ups_at _ _ _)
 rw [ups_ups] at hs
 refine ⟨nb, _, _, rfl, ?_, T2.rest1 rfl, rfl, add1 (by omega) hni, hs, f, ups g nb r, na, nb + 1, rb ++ [nb], x, x', y', E', ?_, ?_, ?_, ?_, ?_, ?_, ?_, ?_, ?_⟩
 · show rb.length < 256; omega
 · rw [← hcat, List.map_append]; rfl
 · rw [← hcat]
   refine ⟨B.ha, by rw [List.length_append, List.length_singleton]; omega, by rw [List.length_append, List.length_singleton, List.length_append, List.length_singleton]; omega, fun k hk => ?_, B.hy, B.hc⟩
   rcases List.mem_append.1 hk with h | h
   · exact Nat.lt_succ_of_lt (B.lt k h)
   · rw [List.mem_singleton.1 h]; exact Nat.lt_succ_self _
 · rw [← hcat]; exact hq
 · rw [← hcat]; exact hnd
 · rw [← hcat]; exact hf
 · rw [← hcat]; exact hz
 · rw [← hcat]; exact hc
 · rw [qs_app]
   obtain ⟨n, _ | q⟩ := z
   · rw [hE1 rfl]; exact hE.trans (List.append_nil _).symm
   · rw [hE2 q rfl]
     show (E ++ [(q, nb)]).map (·.1) = qs l1 ++ [q]
     rw [List.map_append, hE]; rfl
 · intro e he
   have key : e ∈ E ∨ e.2 = nb := by
     obtain ⟨n, _ | q⟩ := z
     · rw [hE1 rfl] at he; exact .inl he
     · rw [hE2 q rfl] at he
       rcases List.mem_append.1 he with h | h
       · exact .inl h
       · rw [List.mem_singleton.1 h]; exact .inr rfl
   rcases key with h | h
   · obtain ⟨h3, h4⟩ := hg e h
     rw [ups_ne _ _ (by omega)]
     exact ⟨h3, by omega⟩
   · rw [h, ups_at]; exact ⟨hr2, Nat.lt_succ_self _⟩
theorem S2.settle (H : S2 K c M l [] y W) (hl : l.length ≤ 30) : ∃ k W2, W.n = 2 ∧ k < 2000 ∧ Wd.Settles k W W2 ∧ S4 K c (M + l.length) (qs l) W2 := by
 obtain ⟨f, g, na, nb, rb, x, x', y', E, rfl, B, hq, hnd, hf, hz, hc, hE, hg⟩ := H
 rw [List.append_nil] at B hq hnd hf hz hc
 have h0 := B.hy
 have h5 := B.hc
 obtain ⟨k, f', g', h1, h2, h3⟩ := quiet_r (K := K) (f := f) (na := na) (nb := nb) (Q := qs l) (rb := rb) (x := x) (y := y) (x' := x') (y' := y') (l := l) (E := E) (g := g) hl h0 (by omega) (fun n q h => ⟨hf n q h, qs_mem h⟩) hnd hE (fun e he => (hg e he).1) hz
 rw [hc] at h2
 refine ⟨k, _, rfl, h1, ?_, f', g', na, nb, rb, x, x', y', rfl, ⟨B.ha, B.hb, B.hr, B.lt, by omega, B.hc⟩, hq, hnd, fun q hq => ?_⟩
 · rw [List.append_nil]; exact h2
 · obtain ⟨n, hn⟩ := mem_qs hq
   exact ⟨n, h3 n q hn⟩
theorem S4.test {q : Nat} {Q : List Nat} (H : S4 K c M (q :: Q) W) : W.n = 2 ∧ q ∈ (W.pr 0).reqs ∧ (W.rq 0 q).act = true ∧ W.call 0 = some W ∧ (W.rq 0 q).done = true ∧ (W.rq 0 q).send = true ∧ S4 K c M Q (W.over 0 q) := by
 obtain ⟨f, g, na, nb, rb, x, x', y', rfl, B, hq, hnd, hf⟩ := H
 obtain ⟨n, hn⟩ := hf q List.mem_cons_self
 obtain ⟨h1, h2⟩ := List.nodup_cons.1 hnd
 refine ⟨rfl, List.mem_cons_self, ?_, T2.rest0 rfl, ?_, ?_, ?_⟩
 · rw [T2.rq0_, hn]; rfl
 · rw [T2.rq0_, hn]; rfl
 · rw [T2.rq0_, hn]; rfl
 · rw [over_s (Q' := Q) hn (by simp)]
   refine ⟨_, g, na, nb, rb, x, x', y', rfl, B, fun k hk => hq k (List.mem_cons_of_mem _ hk), h2, fun k hk => ?_⟩
   obtain ⟨m, hm⟩ := hf k (List.mem_cons_of_mem _ hk)
   exact ⟨m, by rw [ups_ne _ _ (fun e : k = q => h1 (e ▸ hk))]; exact hm⟩
theorem S4.lists {Q : List Nat} (H : S4 K c M Q W) : W.n = 2 ∧ (W.pr 1).rcvs = [] ∧ (W.pr 1).msgs = [] ∧ (W.pr 1).reqs.length ≤ M := by
 obtain ⟨f, g, na, nb, rb, x, x', y', rfl, B, hq, hnd, hf⟩ := H
 exact ⟨rfl, rfl, rfl, B.hr⟩
theorem S4.next (H : S4 K c M [] W) : S1 K c M [] c W := by
 obtain ⟨f, g, na, nb, rb, x, x', y', rfl, B, hq, hnd, hf⟩ := H
 exact ⟨f, g, na, nb, rb, x, x', y', rfl, B, hq, hnd, fun n q h => (by cases h), fun z h => (by cases h), by simp [qs]⟩
theorem S1.born {q : Rq} {e : Int} (h0 : 0 ≤ c) (h5 : c ≤ 5) (hW : W = ⟨e, 2, fun _ => ⟨1, [], [], [], [], [], [c, c]⟩, fun _ _ => q, fun _ _ => []⟩) : ∃ K : Wd, K.lim = e ∧ S1 K c 1 [] c W := by
 refine ⟨W, by rw [hW], fun _ => q, fun _ => q, 1, 1, [], c, c, c, ?_, ⟨Nat.le_refl _, Nat.le_refl _, Nat.zero_le _, fun k h => (by cases h), h0, h5⟩, fun q h => (by cases h), List.nodup_nil, fun n q h => (by cases h), fun z h => (by cases h), by simp [qs]⟩
 subst hW
 unfold T2
 dsimp only
 congr 1
 · funext p; split
   · rfl
   · split <;> rfl
 · funext p; split
   · rfl
   · split <;> rfl
 · funext i j; split
   · rfl
   · split <;> rfl
end
end Go.Mt
namespace Go.Proofs.Ytmehemeoaplepaa
noncomputable section
open Go Go.X Go.Arm Go.Mt
theorem lists_ok {W : Wd} {G : Gh} {h : AH} {p : Nat} (R : Rep W G h) (hp : p < W.n) :
  Arm.Calls Try.prog 18 [ptr (G.B .wd), nv (p : Int)] h (fun r => r.1 = .tuple ⟨[nv ((W.pr p).rcvs.length : Int), nv ((W.pr p).msgs.length : Int), nv (((W.pr p).reqs.map fun (k : Nat) => ((k : Int), ptr (G.B (.rq p k)))).length : Int), nv 0]⟩ ∧ Sm Nix h r.2) := by
 obtain ⟨cm, gm, lm⟩ := R.msg hp
 refine Calls_of_W (n := 36) (fn := Try.f18) kr rfl rfl (Nat.le_of_ble_eq_true rfl) trivial ⟨.inr (by simp), rfl⟩ ?_
 have T0 : Sm Nix h h := .refl
 refine W_seq ?_
 refine W_region ?_
 refine L_g 4 kr ?_
 refine L_nil ?_
 refine W_seq ?_
 refine W_region ?_
 refine L_g 2 kr ?_
 refine L_c rfl rfl kr (at_ok (R.ext T0) hp) ?_
 rintro v324 h324 ⟨e324, t324⟩
 try dsimp only at e324
 try dsimp only at t324
 subst e324
 have T324 : Sm Nix h h324 := T0.ext t324
 have N324 := T324.nx
 have M324 := t324.nx
 refine L_g 5 kr ?_
 refine L_nil ?_
 refine W_seq ?_
 refine W_seq ?_
 refine W_region ?_
 refine L_g 2 kr ?_
 refine L_nil ?_
 refine W_cond false kr (fun e => by cases e) (fun _ => ?_)
 refine W_skip ?_
 refine W_seq ?_
 refine W_drawn kr ?_
 refine D_l (l := [0, 1, 2, 3, 4, 5, 6, 7, 8, 9, 10, 11, 12, 13, 14, 15, 16, 17, 18, 19, 20]) kr kr Rk_nil ?_
 refine NS_b 4 kr ?_
 refine NS_ld _ rfl rfl kr kr kr (((R.ext T324).prL hp).ld (o := 5) kr rfl) ?_
 refine NS_ln _ rfl rfl kr kr kr ((((R.ext T324).rcv hp).lenV (T := 85) (el := 103) kr)) ?_
 refine NS_b 4 kr ?_
 refine NS_ld _ rfl rfl kr kr kr (((R.ext T324).prL hp).ld (o := 4) kr rfl) ?_
 refine NS_ln _ rfl rfl kr kr kr (((gm.ext T324).lenV (T := 82) (el := 117) kr)) ?_
 refine NS_b 3 kr ?_
 refine NS_ld _ rfl rfl kr kr kr (((R.ext T324).prL hp).ld (o := 1) kr rfl) ?_
 refine NS_ln _ rfl rfl kr kr kr ((((R.ext T324).rqs hp).1.len (P := Try.prog) (T := 78) (kt := 3) (el := 103) kr)) ?_
 refine NS_b 4 kr ?_
 refine NS_nil ?_
 refine W_ret ?_
 repeat first | with_reducible refine then_ret ?_ | with_reducible refine blk_ret ?_
 refine done_of (v := .tuple ⟨[nv ((W.pr p).rcvs.length : Int), nv ((W.pr p).msgs.length : Int), nv (((W.pr p).reqs.map fun (k : Nat) => ((k : Int), ptr (G.B (.rq p k)))).length : Int), nv 0]⟩) (.inl rfl) kr ?_
 exact ⟨rfl, T324⟩
structure Wl (h0 : AH) (W : Wd) (G : Gh) (va : Value) (la : List Value) (vc : Value) (lc : List Value) (h : AH) : Prop where
 R : Rep W G h
 O : Old h0 G h
 ga : Gr h 1 va la.length la
 gc : Gr h 1 vc lc.length lc
 ma : ∀ b, vb va = some b → h0.next ≤ b ∧ ¬ G.mut b ∧ ¬ G.ro b
 mc : ∀ b, vb vc = some b → h0.next ≤ b ∧ ¬ G.mut b ∧ ¬ G.ro b
 dj : ∀ b, vb va = some b → vb vc = some b → False
section
variable {h0 h h' : AH} {W W' : Wd} {G G' : Gh} {va vc v : Value} {la lc : List Value} {x : Value}
theorem Old.ext (O : Old h0 G h) (t : Sm Nix h h') : Old h0 G h' := ⟨O.sm.ext t, O.mu⟩
theorem Wl.nil (R : Rep W G h) (O : Old h0 G h) : Wl h0 W G (.slice none 0 0) [] (.slice none 0 0) [] h := ⟨R, O, Gr.nil, Gr.nil, fun b hb => (by cases hb), fun b hb => (by cases hb), fun b hb => (by cases hb)⟩
theorem Wl.ext (H : Wl h0 W G va la vc lc h) (t : Sm Nix h h') : Wl h0 W G va la vc lc h' := ⟨H.R.ext t, H.O.ext t, H.ga.ext t, H.gc.ext t, H.ma, H.mc, H.dj⟩
theorem Wl.go (H : Wl h0 W G va la vc lc h) (Y : Gx G h G' h') (R' : Rep W' G' h') : Wl h0 W' G' va la vc lc h' :=
 ⟨R', H.O.go Y, H.ga.sm Y.sm fun b hb => (H.ma b hb).2.1, H.gc.sm Y.sm fun b hb => (H.mc b hb).2.1,
  fun b hb => ⟨(H.ma b hb).1, fun e => (Y.mu b e).elim (H.ma b hb).2.1 fun e2 => by have := H.ga.lt hb; omega, fun e => (Y.ron b e).elim (H.ma b hb).2.2 fun e2 => by have := H.ga.lt hb; omega⟩,
  fun b hb => ⟨(H.mc b hb).1, fun e => (Y.mu b e).elim (H.mc b hb).2.1 fun e2 => by have := H.gc.lt hb; omega, fun e => (Y.ron b e).elim (H.mc b hb).2.2 fun e2 => by have := H.gc.lt hb; omega⟩, H.dj⟩
theorem Wl.appA (H : Wl h0 W G va la vc lc h) (g : Gr h' 1 v (la.length + 1) (la ++ [x])) (t : Sm (fun b => vb va = some b) h h') (f : ∀ b, vb v = some b → vb va = some b ∨ h.next ≤ b) : Wl h0 W G v (la ++ [x]) vc lc h' :=
 ⟨H.R.sm t fun b hb => (H.ma b hb).2, ⟨H.O.sm.then (t.mono fun b hb => (H.ma b hb).1), H.O.mu⟩, by rw [List.length_append]; exact g, H.gc.sm t fun b hb hs => H.dj b hs hb,
  fun b hb => (f b hb).elim (H.ma b) fun e => ⟨Nat.le_trans H.O.sm.nx e, H.R.op.new e, H.R.op.newr e⟩, H.mc, fun b h1 h2 => (f b h1).elim (fun e => H.dj b e h2) fun e => by have := H.gc.lt h2; omega⟩
theorem Wl.appC (H : Wl h0 W G va la vc lc h) (g : Gr h' 1 v (lc.length + 1) (lc ++ [x])) (t : Sm (fun b => vb vc = some b) h h') (f : ∀ b, vb v = some b → vb vc = some b ∨ h.next ≤ b) : Wl h0 W G va la v (lc ++ [x]) h' :=
 ⟨H.R.sm t fun b hb => (H.mc b hb).2, ⟨H.O.sm.then (t.mono fun b hb => (H.mc b hb).1), H.O.mu⟩, H.ga.sm t fun b hb hs => H.dj b hb hs, by rw [List.length_append]; exact g, H.ma,
  fun b hb => (f b hb).elim (H.mc b) fun e => ⟨Nat.le_trans H.O.sm.nx e, H.R.op.new e, H.R.op.newr e⟩, fun b h1 h2 => (f b h2).elim (fun e => H.dj b h1 e) fun e => by have := H.ga.lt h1; omega⟩
theorem Wl.none (H : Wl h0 W G va la vc lc h) : Wl h0 W G (.slice none 0 0) [] (.slice none 0 0) [] h := .nil H.R H.O
end
theorem zrep_one (z : Value) : ∀ m, zrep m [z] = List.replicate m z
 | 0 => rfl
 | m + 1 => by rw [zrep, zrep_one z m]; rfl
theorem zs_rb {h : AH} {b m : Nat} (c : Cl h b (zrep m [.int .u8 0])) : Rb h (.slice (some ⟨b, 0, none⟩) m m) ((zs m).map bv) := by
 have e : (zs m).map bv = zrep m [.int .u8 0] := by
  rw [zrep_one]; unfold zs; rw [List.map_replicate]; rfl
 rw [e]
 exact (c.sd (n := m) (by rw [zrep_one, List.length_replicate])).rb
theorem el_by {h : AH} {v : Value} {d : By} {i : Nat} (H : Sd h 1 v d.length (d.map bv)) (hi : i < d.length) : ∃ b o, aIndex Try.prog 23 v (nv (i : Int)) = some (.pointer (some ⟨b, o, none⟩)) ∧ aLoad Try.prog 5 ⟨b, o, none⟩ h = some (.int .u8 (d[i].toNat : Int)) := by
 obtain ⟨b, o, _, h1, h2⟩ := H.at (P := Try.prog) (T := 23) (el := 5) kr kr hi .i64
 refine ⟨b, o, h1, ld_cell kr ?_⟩
 have := h2 0 (by decide)
 rw [Nat.add_zero, Nat.mul_one, Nat.add_zero, List.getElem?_map, List.getElem?_eq_getElem hi] at this
 exact this
theorem el_int {h : AH} {v : Value} {l : List Nat} {j q : Nat} (H : Gr h 1 v (l.map nk).length (l.map nk)) (hq : l[j]? = some q) : ∃ b o, aIndex Try.prog 29 v (nv (j : Int)) = some (.pointer (some ⟨b, o, none⟩)) ∧ aLoad Try.prog 3 ⟨b, o, none⟩ h = some (nk q) := by
 have hj : j < (l.map nk).length := by
  rw [List.length_map]
  exact (List.getElem?_eq_some_iff.1 hq).1
 obtain ⟨b, o, _, h1, h2⟩ := H.sd.at (P := Try.prog) (T := 29) (el := 3) kr kr hj .i64
 refine ⟨b, o, h1, ld_cell kr ?_⟩
 have := h2 0 (by decide)
 rw [Nat.add_zero, Nat.mul_one, Nat.add_zero, List.getElem?_map, hq] at this
 exact this
theorem dec_ok {y : Int} (h1 : -1000 ≤ y) (h2 : y ≤ 1000) : Value.int .i64 (IntKind.i64.wrap (y - 1)) = nv (y - 1) := by
 have : IntKind.i64.wrap (y - 1) = y - 1 := by rw [IntKind.wrap_i64]; omega
 rw [this]; rfl
theorem add_i {a b : Nat} {n : Nat} (h1 : a + b = n) (h2 : n < 1000) : Value.int .i64 (IntKind.i64.wrap ((a : Int) + (b : Int))) = nv (n : Int) := by
 have : IntKind.i64.wrap ((a : Int) + (b : Int)) = (n : Int) := by rw [IntKind.wrap_i64]; omega
 rw [this]; rfl
end
end Go.Proofs.Ytmehemeoaplepaa
namespace Go.Proofs.Ytmehemeoaplepaa
noncomputable section
open Go Go.X Go.Arm Go.Mt
set_option maxHeartbeats 2000000 in
theorem eager_ok {h : AH} {x x2 : Int} {sv : Value} {ds : By} (hx : 0 ≤ x ∧ x < 256) (hx2 : 0 ≤ x2 ∧ x2 < 256) (Hl : Sd h 1 sv ds.length (ds.map bv)) :
  Arm.Calls Try.prog 5 [.int .u8 x, .int .u8 x2, sv] h (fun r => r.1 = .bool true) := by
 obtain ⟨E, hE⟩ : ∃ E, x.toNat % 14 = E := ⟨_, rfl⟩
 have hE9 : E < 14 := by rw [← hE]; exact Nat.mod_lt _ (by decide)
 obtain ⟨c, hc⟩ : ∃ c, x2.toNat % 6 = c := ⟨_, rfl⟩
 have hc9 : c < 6 := by rw [← hc]; exact Nat.mod_lt _ (by decide)
 refine Calls_of_W (n := 203) (fn := Try.f5) kr rfl rfl (Nat.le_of_ble_eq_true rfl) trivial ⟨.inr (by simp), rfl⟩ ?_
 have T0 : Sm Nix h h := .refl
 refine W_seq ?_
 refine W_region ?_
 refine L_g 1 kr ?_
 refine L_nil ?_
 refine W_seq ?_
 refine W_seq ?_
 by_cases h30 : 30 < ds.length
 ·
  refine W_region ?_
  refine L_g 1 kr ?_
  refine L_ln _ rfl rfl kr (Sd.len (P := Try.prog) (T := 23) (el := 5) kr (Hl.ext T0)) ?_
  refine L_i ((ds.length : Int)) (30) (.bool true) rfl rfl kr kr rfl (by simp; omega) ?_
  refine L_nil ?_
  refine W_cond true kr (fun _ => ?_) (fun e => by cases e)
  refine W_seq ?_
  refine W_region ?_
  refine L_c rfl rfl kr (works_ok) ?_
  rintro vw hw ew
  cases ew
  refine L_g 1 kr ?_
  refine L_nil ?_
  refine W_ret ?_
  repeat first | with_reducible refine then_ret ?_ | with_reducible refine blk_ret ?_
  refine done_of (v := .bool true) (.inl rfl) kr ?_
  exact rfl
 ·
  have hlB : ds.length ≤ 30 := by omega
  refine W_region ?_
  refine L_g 1 kr ?_
  refine L_ln _ rfl rfl kr (Sd.len (P := Try.prog) (T := 23) (el := 5) kr (Hl.ext T0)) ?_
  refine L_i ((ds.length : Int)) (30) (.bool false) rfl rfl kr kr rfl (by simp; omega) ?_
  refine L_nil ?_
  refine W_cond false kr (fun e => by cases e) (fun _ => ?_)
  refine W_skip ?_
  refine W_seq ?_
  refine W_region ?_
  refine L_g 2 kr ?_
  refine L_p (nv (E : Int)) rfl (ev_bin (o := _) rfl kr kr (rem_ok hx 14 (by decide) hE kr)) ?_
  refine L_g 2 kr ?_
  refine L_p (nv (c : Int)) rfl (ev_bin (o := _) rfl kr kr (rem_ok hx2 6 (by decide) hc kr)) ?_
  refine L_g 2 kr ?_
  refine L_nil ?_
  refine W_seq ?_
  refine W_region ?_
  refine L_g 2 kr ?_
  refine L_c rfl rfl kr (new_ok (n := 2) (e := (E : Int)) (c := (c : Int)) (.inr (.inl rfl)) (by omega) (by omega) (by omega) (by omega)) ?_
  rintro v325 h325 ⟨G0, e325, R325, Z325, t325⟩
  dsimp only at e325 R325 Z325 t325
  subst e325
  have O325 : Old h G0 h325 := ⟨t325.mono (fun _ x => x.elim), fun b hb => Z325 b (.inl hb)⟩
  obtain ⟨K0, hK0, H0⟩ := S1.born (W := Wd.new 2 (E : Int) (c : Int)) (q := rq0) (e := (E : Int)) (c := (c : Int)) (by omega) (by omega) rfl
  have w325 := Wl.nil R325 O325
  have T325 : Sm Nix h325 h325 := .refl
  refine L_g 5 kr ?_
  refine L_nil ?_
  refine W_seq ?_
  refine W_seq ?_
  refine W_region ?_
  refine L_g 2 kr ?_
  refine L_nil ?_
  refine W_cond false kr (fun e => by cases e) (fun _ => ?_)
  refine W_skip ?_
  refine W_seq ?_
  refine W_seq ?_
  refine W_region ?_
  refine L_g 1 kr ?_
  refine L_nil ?_
  refine W_block ?_
  refine W_loop (fun mm fr hh => ∃ (r : Nat) (M : Nat) (K : Wd) (W8 : Wd) (G8 : Gh), mm = 2 - r ∧ (r ≤ 2) ∧ (M ≤ 1 + 30 * r) ∧ (K.lim = (E : Int)) ∧ (S1 K (c : Int) M [] (c : Int) W8) ∧ (Wl h W8 G8 (.slice none 0 0) [] (.slice none 0 0) [] hh) ∧ fr 2 = sv ∧ fr 7 = nv (E : Int) ∧ fr 8 = nv (c : Int) ∧ fr 9 = ptr (G8.B .wd) ∧ fr 59 = nv (r : Int)) (2) ?_ ?_
  ·
   exact ⟨0, 1, K0, _, G0, rfl, by omega, by omega, hK0, H0, ((w325).ext T325), kr, kr, kr, kr, kr⟩
  rintro mm fr hh8 ⟨r, M, K, W8, G8, hm8, hr, hM0, hK, H8, w8, y82, y87, y88, y89, y859⟩
  refine W_set (k := 2) y82 ?_
  refine W_set (k := 7) y87 ?_
  refine W_set (k := 8) y88 ?_
  refine W_set (k := 9) y89 ?_
  refine W_set (k := 59) y859 ?_
  have T8 : Sm Nix hh8 hh8 := .refl
  refine W_seq ?_
  refine W_region ?_
  refine L_i ((r : Int)) (2) (.bool (decide ((r : Int) < 2))) rfl rfl kr kr rfl (rfl) ?_
  refine L_nil ?_
  refine W_seq ?_
  refine W_cond (decide ((r : Int) < 2)) kr (fun hb => ?_) (fun hb => ?_)
  ·
   have hr2 : r < 2 := by simp at hb; omega
   have hM : M ≤ 31 := by omega
   refine W_skip ?_
   refine W_seq ?_
   refine W_block ?_
   refine W_seq ?_
   refine W_region ?_
   refine L_g 2 kr ?_
   refine L_nil ?_
   refine W_seq ?_
   refine W_region ?_
   refine L_g 2 kr ?_
   refine L_nil ?_
   refine W_seq ?_
   refine W_seq ?_
   refine W_region ?_
   refine L_g 1 kr ?_
   refine L_ln _ rfl rfl kr (Sd.len (P := Try.prog) (T := 23) (el := 5) kr ((((w8).ext T8).O).sd Hl)) ?_
   refine L_g 1 kr ?_
   refine L_nil ?_
   refine W_block ?_
   refine W_loop (fun mm fr hh => ∃ (i : Nat) (l : List Mg) (y : Int) (W12 : Wd) (G12 : Gh) (va : Value) (vc : Value) (es : List Value), mm = ds.length - i ∧ (i ≤ ds.length) ∧ (l.length = i) ∧ (es.length = l.length - (qs l).length) ∧ (0 ≤ y ∧ y ≤ 5) ∧ (S1 K (c : Int) M l y W12) ∧ (Wl h W12 G12 va ((qs l).map nk) vc es hh) ∧ fr 2 = sv ∧ fr 7 = nv (E : Int) ∧ fr 8 = nv (c : Int) ∧ fr 59 = nv (r : Int) ∧ fr 9 = ptr (G12.B .wd) ∧ fr 11 = nv y ∧ fr 12 = va ∧ fr 13 = vc ∧ fr 62 = sv ∧ fr 63 = nv (ds.length : Int) ∧ fr 64 = nv (i : Int)) (ds.length) ?_ ?_
   ·
    exact ⟨0, [], (c : Int), _, G8, (.slice none 0 0), (.slice none 0 0), [], rfl, Nat.zero_le _, rfl, rfl, by omega, H8, ((w8).ext T8), kr, kr, kr, kr, kr, kr, kr, kr, kr, kr, kr⟩
   rintro mm fr hh12 ⟨i, l, y, W12, G12, va, vc, es, hm12, hi, hl, hes, hy, H12, w12, y122, y127, y128, y1259, y129, y1211, y1212, y1213, y1262, y1263, y1264⟩
   refine W_set (k := 2) y122 ?_
   refine W_set (k := 7) y127 ?_
   refine W_set (k := 8) y128 ?_
   refine W_set (k := 59) y1259 ?_
   refine W_set (k := 9) y129 ?_
   refine W_set (k := 11) y1211 ?_
   refine W_set (k := 12) y1212 ?_
   refine W_set (k := 13) y1213 ?_
   refine W_set (k := 62) y1262 ?_
   refine W_set (k := 63) y1263 ?_
   refine W_set (k := 64) y1264 ?_
   have T12 : Sm Nix hh12 hh12 := .refl
   refine W_seq ?_
   refine W_region ?_
   refine L_i ((i : Int)) ((ds.length : Int)) (.bool (decide ((i : Int) < (ds.length : Int)))) rfl rfl kr kr rfl (rfl) ?_
   refine L_nil ?_
   refine W_seq ?_
   refine W_cond (decide ((i : Int) < (ds.length : Int))) kr (fun hb => ?_) (fun hb => ?_)
   ·
    have hlt : i < ds.length := by simp at hb; omega
    obtain ⟨b9, o9, i9, l9⟩ := el_by (w12.O.sd Hl) hlt
    have hx9 : (0 : Int) ≤ (ds[i].toNat : Int) ∧ (ds[i].toNat : Int) < 256 := ⟨by omega, by have := ds[i].toNat_lt; omega⟩
    obtain ⟨m, hm⟩ : ∃ m, ((ds[i].toNat : Int)).toNat % 20 = m := ⟨_, rfl⟩
    have hm20 : m < 20 := by rw [← hm]; exact Nat.mod_lt _ (by decide)
    obtain ⟨no, W2, W3, z1, z2, z3, z4, z5, z6, z7, z8, z9, z10, z11, z12, zz⟩ := H12.send hM (by omega) hm20
    refine W_skip ?_
    refine W_seq ?_
    refine W_block ?_
    refine W_seq ?_
    refine W_region ?_
    refine L_ix _ rfl rfl kr kr (i9) ?_
    refine L_ld _ rfl rfl kr (l9) ?_
    refine L_g 1 kr ?_
    refine L_nil ?_
    refine W_seq ?_
    refine W_region ?_
    refine L_g 2 kr ?_
    refine L_p (nv (m : Int)) rfl (ev_bin (o := _) rfl kr kr (rem_ok hx9 20 (by decide) hm kr)) ?_
    refine L_g 1 kr ?_
    refine L_nil ?_
    refine W_seq ?_
    refine W_region ?_
    refine L_g 2 kr ?_
    refine L_nw (Al.cells (zrep m [.int .u8 0])) (.sl m m) rfl rfl (ev_mkK (P := Try.prog) (k := 1) (el := 5) (z := .int .u8 0) (by_ := 1) kr kr kr kr rfl (by omega) kr kr) ?_
    have c326 : Cl (hh12.push (Al.cells (zrep m [.int .u8 0])).obj) hh12.next (zrep m [.int .u8 0]) := Cl.new hh12 _
    have t326 : Sm Nix hh12 (hh12.push (Al.cells (zrep m [.int .u8 0])).obj) := .push hh12 _
    have n326 : (hh12.push (Al.cells (zrep m [.int .u8 0])).obj).next = hh12.next + 1 := rfl
    generalize hh12.push (Al.cells (zrep m [.int .u8 0])).obj = h326 at c326 t326 n326 ⊢
    have T326 : Sm Nix hh12 h326 := T12.ext t326
    have N326 := T326.nx
    have hz15 := zs_rb c326
    have nm15 := (((w12).ext T12).R).op.new (Nat.le_refl _)
    refine L_c rfl rfl kr (send1_ok (p := 0) (q := 1) (ctx := 0) (tag := 1) (sync := false) (d := zs m) (((w12).ext T326).R) (by rw [z1]; decide) (by rw [z1]; decide) (by decide) (by decide) (by decide) (by decide) z2 (by rw [zs_len]; omega) hz15 (fun b hb => by cases hb; exact nm15) z3 z5 (by rw [z4]; exact z6)) ?_
    rintro v327 h327 ⟨e327, b15, S15, C15, ro15, R327, Y327⟩
    dsimp only at e327 R327 Y327
    rw [z4] at e327 R327 Y327
    rw [z7] at e327
    subst e327
    have w327 := ((w12).ext T326).go Y327 R327
    replace c326 := c326
    have T327 : Sm Nix h327 h327 := .refl
    refine L_g 5 kr ?_
    refine L_nil ?_
    refine W_seq ?_
    rcases zz with ⟨hc9, hd, HS⟩ | ⟨hc9, hd, HS⟩
    ·
     refine W_region ?_
     refine L_g 2 kr ?_
     refine L_c rfl rfl kr (test_send (p := 0) (no := no) (((w327).ext T327).R) (by rw [z8]; decide) z9 z10 z11 hd z12) ?_
     rintro v328 h328 ⟨e328, S328, C328, ro328, R328, Y328⟩
     dsimp only at e328 R328 Y328
     subst e328
     have w328 := ((w327).ext T327).go Y328 R328
     have T328 : Sm Nix h328 h328 := .refl
     refine L_g 5 kr ?_
     refine L_nw (Al.cells [nv 0, nv 0, nv 0, nv 0]) .ptr rfl rfl kr ?_
     have c329 : Cl (h328.push (Al.cells [nv 0, nv 0, nv 0, nv 0]).obj) h328.next [nv 0, nv 0, nv 0, nv 0] := Cl.new h328 _
     have t329 : Sm Nix h328 (h328.push (Al.cells [nv 0, nv 0, nv 0, nv 0]).obj) := .push h328 _
     have n329 : (h328.push (Al.cells [nv 0, nv 0, nv 0, nv 0]).obj).next = h328.next + 1 := rfl
     generalize h328.push (Al.cells [nv 0, nv 0, nv 0, nv 0]).obj = h329 at c329 t329 n329 ⊢
     have T329 : Sm Nix h328 h329 := T328.ext t329
     have N329 := T329.nx
     obtain ⟨h330, e330, d330, t330, n330⟩ := Cl.storeN (P := Try.prog) (T := 43) (n := 4) (v := .agg ⟨[nv (W3.rq 0 no).st.src, nv (W3.rq 0 no).st.tag, nv (W3.rq 0 no).st.size, nv (W3.rq 0 no).st.err]⟩) (cs := [nv (W3.rq 0 no).st.src, nv (W3.rq 0 no).st.tag, nv (W3.rq 0 no).st.size, nv (W3.rq 0 no).st.err]) c329 rfl kr rfl rfl (List.all_eq_true.1 rfl)
     replace c329 := d330
     have T330 : Sm Nix h328 h330 := T329.trans t330 (fun x hx => by have hx : x = h328.next := hx; first | exact .inr (by omega) | exact .inl (by subst hx; first | rfl | exact .inl rfl | exact .inr rfl | exact .inr (.inl rfl) | exact .inr (.inr rfl) | (show _ < _; omega)))
     have N330 := T330.nx
     refine L_st _ rfl rfl rfl kr kr (e330) ?_
     refine L_g 3 kr ?_
     refine L_nil ?_
     refine W_seq ?_
     refine W_seq ?_
     refine W_region ?_
     refine L_g 10 kr ?_
     refine L_want kr ?_
     refine L_i ((m : Int)) ((E : Int)) (.bool true) rfl rfl kr kr rfl (by simp; omega) ?_
     refine L_g 2 kr ?_
     refine L_want kr ?_
     refine L_i (y) (0) (.bool true) rfl rfl kr kr rfl (by simp; omega) ?_
     refine L_g 3 kr ?_
     refine L_nil ?_
     refine W_cond false kr (fun e => by cases e) (fun _ => ?_)
     refine W_skip ?_
     refine W_seq ?_
     refine W_region ?_
     refine L_g 1 kr ?_
     refine L_nil ?_
     refine W_cond true kr (fun _ => ?_) (fun e => by cases e)
     refine W_seq ?_
     refine W_region ?_
     refine L_g 1 kr ?_
     refine L_i (y) (1) (nv (y - 1)) rfl rfl kr kr rfl (dec_ok (by omega) (by omega)) ?_
     refine L_g 1 kr ?_
     refine L_nil ?_
     refine W_region ?_
     refine L_g 2 kr ?_
     refine L_nw (Al.cells [nv (no : Int)]) (.sl 1 1) rfl rfl kr ?_
     have c331 : Cl (h330.push (Al.cells [nv (no : Int)]).obj) h330.next [nv (no : Int)] := Cl.new h330 _
     have t331 : Sm Nix h330 (h330.push (Al.cells [nv (no : Int)]).obj) := .push h330 _
     have n331 : (h330.push (Al.cells [nv (no : Int)]).obj).next = h330.next + 1 := rfl
     generalize h330.push (Al.cells [nv (no : Int)]).obj = h331 at c331 t331 n331 ⊢
     replace c329 := c329.ext t331
     have T331 : Sm Nix h328 h331 := T330.ext t331
     have N331 := T331.nx
     obtain ⟨v332, h332, e332, g332, t332, f332⟩ := (((w328).ext T331).gc).append (P := Try.prog) (sT := 29) (xT := 29) (el := 3) (by_ := 8) (z := nv 0) (m := 1) (ds := [nv (no : Int)]) kr kr kr kr kr rfl (by decide) (c331.sd rfl) (fun x hx => by cases List.mem_singleton.1 hx; rfl) (by have := hlB; have := qs_le l; first | (rw [List.length_map]; omega) | omega)
     refine L_bi v332 h332 rfl rfl kr (vs := [vc, .slice (some ⟨h330.next, 0, none⟩) 1 1]) kr (bi_append e332) ?_
     replace c329 := c329
     replace c331 := c331
     have T332 : Sm Nix h332 h332 := .refl
     have w332 := ((w328).ext T331).appC g332 t332 f332
     refine L_g 1 kr ?_
     refine L_nil ?_
     refine W_region ?_
     refine L_i ((i : Int)) (1) (nv ((i + 1 : Nat) : Int)) rfl rfl kr kr rfl (inc_ok (by omega)) ?_
     refine L_g 1 kr ?_
     refine L_nil ?_
     have hqq : qs (l ++ [(m, none)]) = qs l := by rw [qs_app]; exact List.append_nil _
     have hll : (l ++ [(m, none)]).length = l.length + 1 := by rw [List.length_append]; rfl
     exact ⟨ds.length - (i + 1), by omega, i + 1, l ++ [(m, none)], y - 1, _, _, va, v332, es ++ [nv (no : Int)], rfl, by omega, by rw [hll, hl], by have := qs_le l; rw [hqq, hll]; first | (rw [List.length_append, List.length_singleton]; omega) | (simp only [List.length_append, List.length_singleton]; omega), by omega, HS, (by rw [hqq]; exact w332), kr, kr, kr, kr, kr, kr, kr, kr, kr, kr, kr⟩
    ·
     refine W_region ?_
     refine L_g 2 kr ?_
     refine L_c rfl rfl kr (test_not (p := 0) (no := no) (((w327).ext T327).R) (by rw [z8]; decide) z9 z10 z11 hd) ?_
     rintro v333 h333 ⟨e333, S333, C333, ro333, R333, Y333⟩
     dsimp only at e333 R333 Y333
     subst e333
     have w333 := ((w327).ext T327).go Y333 R333
     have T333 : Sm Nix h333 h333 := .refl
     refine L_g 5 kr ?_
     refine L_nw (Al.cells [nv 0, nv 0, nv 0, nv 0]) .ptr rfl rfl kr ?_
     have c334 : Cl (h333.push (Al.cells [nv 0, nv 0, nv 0, nv 0]).obj) h333.next [nv 0, nv 0, nv 0, nv 0] := Cl.new h333 _
     have t334 : Sm Nix h333 (h333.push (Al.cells [nv 0, nv 0, nv 0, nv 0]).obj) := .push h333 _
     have n334 : (h333.push (Al.cells [nv 0, nv 0, nv 0, nv 0]).obj).next = h333.next + 1 := rfl
     generalize h333.push (Al.cells [nv 0, nv 0, nv 0, nv 0]).obj = h334 at c334 t334 n334 ⊢
     have T334 : Sm Nix h333 h334 := T333.ext t334
     have N334 := T334.nx
     obtain ⟨h335, e335, d335, t335, n335⟩ := Cl.storeN (P := Try.prog) (T := 43) (n := 4) (v := .agg ⟨[nv 0, nv 0, nv 0, nv 0]⟩) (cs := [nv 0, nv 0, nv 0, nv 0]) c334 rfl kr rfl rfl (List.all_eq_true.1 rfl)
     replace c334 := d335
     have T335 : Sm Nix h333 h335 := T334.trans t335 (fun x hx => by have hx : x = h333.next := hx; first | exact .inr (by omega) | exact .inl (by subst hx; first | rfl | exact .inl rfl | exact .inr rfl | exact .inr (.inl rfl) | exact .inr (.inr rfl) | (show _ < _; omega)))
     have N335 := T335.nx
     refine L_st _ rfl rfl rfl kr kr (e335) ?_
     refine L_g 3 kr ?_
     refine L_nil ?_
     refine W_seq ?_
     refine W_seq ?_
     by_cases hc8 : (m : Int) ≤ (E : Int)
     ·
      have hy0 : ¬ 0 < y := fun hy9 => hc9 ⟨by rw [hK]; exact hc8, hy9⟩
      refine W_region ?_
      refine L_g 10 kr ?_
      refine L_want kr ?_
      refine L_i ((m : Int)) ((E : Int)) (.bool true) rfl rfl kr kr rfl (by simp; omega) ?_
      refine L_g 2 kr ?_
      refine L_want kr ?_
      refine L_i (y) (0) (.bool false) rfl rfl kr kr rfl (by simp; omega) ?_
      refine L_g 3 kr ?_
      refine L_nil ?_
      refine W_cond false kr (fun e => by cases e) (fun _ => ?_)
      refine W_skip ?_
      refine W_seq ?_
      refine W_region ?_
      refine L_g 1 kr ?_
      refine L_nil ?_
      refine W_cond false kr (fun e => by cases e) (fun _ => ?_)
      refine W_region ?_
      refine L_g 2 kr ?_
      refine L_nw (Al.cells [nv (no : Int)]) (.sl 1 1) rfl rfl kr ?_
      have c336 : Cl (h335.push (Al.cells [nv (no : Int)]).obj) h335.next [nv (no : Int)] := Cl.new h335 _
      have t336 : Sm Nix h335 (h335.push (Al.cells [nv (no : Int)]).obj) := .push h335 _
      have n336 : (h335.push (Al.cells [nv (no : Int)]).obj).next = h335.next + 1 := rfl
      generalize h335.push (Al.cells [nv (no : Int)]).obj = h336 at c336 t336 n336 ⊢
      replace c334 := c334.ext t336
      have T336 : Sm Nix h333 h336 := T335.ext t336
      have N336 := T336.nx
      obtain ⟨v337, h337, e337, g337, t337, f337⟩ := (((w333).ext T336).ga).append (P := Try.prog) (sT := 29) (xT := 29) (el := 3) (by_ := 8) (z := nv 0) (m := 1) (ds := [nv (no : Int)]) kr kr kr kr kr rfl (by decide) (c336.sd rfl) (fun x hx => by cases List.mem_singleton.1 hx; rfl) (by have := hlB; have := qs_le l; first | (rw [List.length_map]; omega) | omega)
      refine L_bi v337 h337 rfl rfl kr (vs := [va, .slice (some ⟨h335.next, 0, none⟩) 1 1]) kr (bi_append e337) ?_
      replace c334 := c334
      replace c336 := c336
      have T337 : Sm Nix h337 h337 := .refl
      have w337 := ((w333).ext T336).appA g337 t337 f337
      refine L_g 1 kr ?_
      refine L_nil ?_
      refine W_region ?_
      refine L_i ((i : Int)) (1) (nv ((i + 1 : Nat) : Int)) rfl rfl kr kr rfl (inc_ok (by omega)) ?_
      refine L_g 1 kr ?_
      refine L_nil ?_
      have hqq : qs (l ++ [(m, some no)]) = qs l ++ [no] := by rw [qs_app]; rfl
      have hll : (l ++ [(m, some no)]).length = l.length + 1 := by rw [List.length_append]; rfl
      exact ⟨ds.length - (i + 1), by omega, i + 1, l ++ [(m, some no)], y, _, _, v337, vc, es, rfl, by omega, by rw [hll, hl], by have := qs_le l; rw [hqq, hll]; first | (rw [List.length_append, List.length_singleton]; omega) | (simp only [List.length_append, List.length_singleton]; omega), hy, HS, (by rw [hqq, List.map_append]; exact w337), kr, kr, kr, kr, kr, kr, kr, kr, kr, kr, kr⟩
     ·
      refine W_region ?_
      refine L_g 10 kr ?_
      refine L_want kr ?_
      refine L_i ((m : Int)) ((E : Int)) (.bool false) rfl rfl kr kr rfl (by simp; omega) ?_
      refine L_g 6 kr ?_
      refine L_nil ?_
      refine W_cond false kr (fun e => by cases e) (fun _ => ?_)
      refine W_skip ?_
      refine W_seq ?_
      refine W_region ?_
      refine L_g 1 kr ?_
      refine L_nil ?_
      refine W_cond false kr (fun e => by cases e) (fun _ => ?_)
      refine W_region ?_
      refine L_g 2 kr ?_
      refine L_nw (Al.cells [nv (no : Int)]) (.sl 1 1) rfl rfl kr ?_
      have c338 : Cl (h335.push (Al.cells [nv (no : Int)]).obj) h335.next [nv (no : Int)] := Cl.new h335 _
      have t338 : Sm Nix h335 (h335.push (Al.cells [nv (no : Int)]).obj) := .push h335 _
      have n338 : (h335.push (Al.cells [nv (no : Int)]).obj).next = h335.next + 1 := rfl
      generalize h335.push (Al.cells [nv (no : Int)]).obj = h338 at c338 t338 n338 ⊢
      replace c334 := c334.ext t338
      have T338 : Sm Nix h333 h338 := T335.ext t338
      have N338 := T338.nx
      obtain ⟨v339, h339, e339, g339, t339, f339⟩ := (((w333).ext T338).ga).append (P := Try.prog) (sT := 29) (xT := 29) (el := 3) (by_ := 8) (z := nv 0) (m := 1) (ds := [nv (no : Int)]) kr kr kr kr kr rfl (by decide) (c338.sd rfl) (fun x hx => by cases List.mem_singleton.1 hx; rfl) (by have := hlB; have := qs_le l; first | (rw [List.length_map]; omega) | omega)
      refine L_bi v339 h339 rfl rfl kr (vs := [va, .slice (some ⟨h335.next, 0, none⟩) 1 1]) kr (bi_append e339) ?_
      replace c334 := c334
      replace c338 := c338
      have T339 : Sm Nix h339 h339 := .refl
      have w339 := ((w333).ext T338).appA g339 t339 f339
      refine L_g 1 kr ?_
      refine L_nil ?_
      refine W_region ?_
      refine L_i ((i : Int)) (1) (nv ((i + 1 : Nat) : Int)) rfl rfl kr kr rfl (inc_ok (by omega)) ?_
      refine L_g 1 kr ?_
      refine L_nil ?_
      have hqq : qs (l ++ [(m, some no)]) = qs l ++ [no] := by rw [qs_app]; rfl
      have hll : (l ++ [(m, some no)]).length = l.length + 1 := by rw [List.length_append]; rfl
      exact ⟨ds.length - (i + 1), by omega, i + 1, l ++ [(m, some no)], y, _, _, v339, vc, es, rfl, by omega, by rw [hll, hl], by have := qs_le l; rw [hqq, hll]; first | (rw [List.length_append, List.length_singleton]; omega) | (simp only [List.length_append, List.length_singleton]; omega), hy, HS, (by rw [hqq, List.map_append]; exact w339), kr, kr, kr, kr, kr, kr, kr, kr, kr, kr, kr⟩
   ·
    have hge : i = ds.length := by simp at hb; omega
    obtain ⟨Wb, n1, s1, H2⟩ := H12.settle (by omega)
    have hN1 : ((qs l).map nk).length = (qs l).length := List.length_map _
    refine W_exit ?_
    repeat with_reducible refine then_exit ?_
    refine exit_here ?_
    refine W_seq ?_
    refine W_seq ?_
    refine W_region ?_
    refine L_g 1 kr ?_
    refine L_c rfl rfl kr (settle2 (((w12).ext T12).R) n1 (by decide) s1) ?_
    rintro v340 h340 ⟨e340, S340, C340, ro340, R340, Y340⟩
    dsimp only at e340 R340 Y340
    subst e340
    have w340 := ((w12).ext T12).go Y340 R340
    have T340 : Sm Nix h340 h340 := .refl
    refine L_g 1 kr ?_
    refine L_nil ?_
    refine W_cond false kr (fun e => by cases e) (fun _ => ?_)
    refine W_skip ?_
    refine W_seq ?_
    refine W_seq ?_
    refine W_region ?_
    refine L_g 1 kr ?_
    refine L_ln _ rfl rfl kr (((((w340).ext T340).ga).lenV (T := 29) (el := 3) kr)) ?_
    refine L_g 1 kr ?_
    refine L_nil ?_
    refine W_block ?_
    refine W_loop (fun mm fr hh => ∃ (j : Nat) (G27 : Gh), mm = ((qs l).map nk).length - j ∧ (j ≤ ((qs l).map nk).length) ∧ (Wl h Wb G27 va ((qs l).map nk) vc es hh) ∧ fr 2 = sv ∧ fr 7 = nv (E : Int) ∧ fr 8 = nv (c : Int) ∧ fr 59 = nv (r : Int) ∧ fr 12 = va ∧ fr 13 = vc ∧ fr 9 = ptr (G27.B .wd) ∧ fr 118 = va ∧ fr 119 = nv (((qs l).map nk).length : Int) ∧ fr 120 = nv (j : Int)) (((qs l).map nk).length) ?_ ?_
    ·
     exact ⟨0, _, rfl, Nat.zero_le _, ((w340).ext T340), kr, kr, kr, kr, kr, kr, kr, kr, kr, kr⟩
    rintro mm fr hh27 ⟨j, G27, hm27, hj, w27, y272, y277, y278, y2759, y2712, y2713, y279, y27118, y27119, y27120⟩
    refine W_set (k := 2) y272 ?_
    refine W_set (k := 7) y277 ?_
    refine W_set (k := 8) y278 ?_
    refine W_set (k := 59) y2759 ?_
    refine W_set (k := 12) y2712 ?_
    refine W_set (k := 13) y2713 ?_
    refine W_set (k := 9) y279 ?_
    refine W_set (k := 118) y27118 ?_
    refine W_set (k := 119) y27119 ?_
    refine W_set (k := 120) y27120 ?_
    have T27 : Sm Nix hh27 hh27 := .refl
    refine W_seq ?_
    refine W_region ?_
    refine L_i ((j : Int)) ((((qs l).map nk).length : Int)) (.bool (decide ((j : Int) < (((qs l).map nk).length : Int)))) rfl rfl kr kr rfl (rfl) ?_
    refine L_nil ?_
    refine W_seq ?_
    refine W_cond (decide ((j : Int) < (((qs l).map nk).length : Int))) kr (fun hb => ?_) (fun hb => ?_)
    ·
     have hjl : j < ((qs l).map nk).length := by simpa using hb
     have hqj : (qs l)[j]? = some (qs l)[j] := List.getElem?_eq_getElem (by omega)
     generalize (qs l)[j] = q at hqj
     have hqm : q ∈ qs l := List.mem_of_getElem? hqj
     obtain ⟨a1, a2, a3, a4, a5⟩ := H2.ask hqm
     obtain ⟨b8, o8, i8, l8⟩ := el_int w27.ga hqj
     refine W_skip ?_
     refine W_seq ?_
     refine W_block ?_
     refine W_seq ?_
     refine W_region ?_
     refine L_ix _ rfl rfl kr kr (i8) ?_
     refine L_ld _ rfl rfl kr (l8) ?_
     refine L_g 1 kr ?_
     refine L_nil ?_
     refine W_seq ?_
     refine W_region ?_
     refine L_g 2 kr ?_
     refine L_c rfl rfl kr (test_not (p := 0) (no := q) (((w27).ext T27).R) (by rw [a1]; decide) a2 a3 a4 a5) ?_
     rintro v341 h341 ⟨e341, S341, C341, ro341, R341, Y341⟩
     dsimp only at e341 R341 Y341
     subst e341
     have w341 := ((w27).ext T27).go Y341 R341
     have T341 : Sm Nix h341 h341 := .refl
     refine L_g 5 kr ?_
     refine L_nw (Al.cells [nv 0, nv 0, nv 0, nv 0]) .ptr rfl rfl kr ?_
     have c342 : Cl (h341.push (Al.cells [nv 0, nv 0, nv 0, nv 0]).obj) h341.next [nv 0, nv 0, nv 0, nv 0] := Cl.new h341 _
     have t342 : Sm Nix h341 (h341.push (Al.cells [nv 0, nv 0, nv 0, nv 0]).obj) := .push h341 _
     have n342 : (h341.push (Al.cells [nv 0, nv 0, nv 0, nv 0]).obj).next = h341.next + 1 := rfl
     generalize h341.push (Al.cells [nv 0, nv 0, nv 0, nv 0]).obj = h342 at c342 t342 n342 ⊢
     have T342 : Sm Nix h341 h342 := T341.ext t342
     have N342 := T342.nx
     obtain ⟨h343, e343, d343, t343, n343⟩ := Cl.storeN (P := Try.prog) (T := 43) (n := 4) (v := .agg ⟨[nv 0, nv 0, nv 0, nv 0]⟩) (cs := [nv 0, nv 0, nv 0, nv 0]) c342 rfl kr rfl rfl (List.all_eq_true.1 rfl)
     replace c342 := d343
     have T343 : Sm Nix h341 h343 := T342.trans t343 (fun x hx => by have hx : x = h341.next := hx; first | exact .inr (by omega) | exact .inl (by subst hx; first | rfl | exact .inl rfl | exact .inr rfl | exact .inr (.inl rfl) | exact .inr (.inr rfl) | (show _ < _; omega)))
     have N343 := T343.nx
     refine L_st _ rfl rfl rfl kr kr (e343) ?_
     refine L_g 3 kr ?_
     refine L_nil ?_
     refine W_seq ?_
     refine W_region ?_
     refine L_g 5 kr ?_
     refine L_nil ?_
     refine W_cond false kr (fun e => by cases e) (fun _ => ?_)
     refine W_skip ?_
     refine W_region ?_
     refine L_i ((j : Int)) (1) (nv ((j + 1 : Nat) : Int)) rfl rfl kr kr rfl (inc_ok (by have := qs_le l; omega)) ?_
     refine L_g 1 kr ?_
     refine L_nil ?_
     exact ⟨((qs l).map nk).length - (j + 1), by omega, j + 1, _, rfl, by omega, ((w341).ext T343), kr, kr, kr, kr, kr, kr, kr, kr, kr, kr⟩
    ·
     refine W_exit ?_
     repeat with_reducible refine then_exit ?_
     refine exit_here ?_
     refine W_seq ?_
     refine W_seq ?_
     refine W_region ?_
     refine L_g 1 kr ?_
     refine L_ln _ rfl rfl kr (Sd.len (P := Try.prog) (T := 23) (el := 5) kr ((((w27).ext T27).O).sd Hl)) ?_
     refine L_g 1 kr ?_
     refine L_nil ?_
     refine W_block ?_
     refine W_loop (fun mm fr hh => ∃ (i4 : Nat) (l1 : List Mg) (l2 : List Mg) (W34 : Wd) (G34 : Gh), mm = ds.length - i4 ∧ (l = l1 ++ l2) ∧ (l1.length = i4) ∧ (S2 K (c : Int) M l1 l2 y W34) ∧ (Wl h W34 G34 va ((qs l).map nk) vc es hh) ∧ fr 2 = sv ∧ fr 7 = nv (E : Int) ∧ fr 8 = nv (c : Int) ∧ fr 59 = nv (r : Int) ∧ fr 12 = va ∧ fr 13 = vc ∧ fr 9 = ptr (G34.B .wd) ∧ fr 139 = nv (ds.length : Int) ∧ fr 140 = nv (i4 : Int)) (ds.length) ?_ ?_
     ·
      exact ⟨0, [], l, Wb, G27, rfl, rfl, rfl, H2, ((w27).ext T27), kr, kr, kr, kr, kr, kr, kr, kr, kr⟩
     rintro mm fr hh34 ⟨i4, l1, l2, W34, G34, hm34, hcat, hl1, H34, w34, y342, y347, y348, y3459, y3412, y3413, y349, y34139, y34140⟩
     refine W_set (k := 2) y342 ?_
     refine W_set (k := 7) y347 ?_
     refine W_set (k := 8) y348 ?_
     refine W_set (k := 59) y3459 ?_
     refine W_set (k := 12) y3412 ?_
     refine W_set (k := 13) y3413 ?_
     refine W_set (k := 9) y349 ?_
     refine W_set (k := 139) y34139 ?_
     refine W_set (k := 140) y34140 ?_
     have T34 : Sm Nix hh34 hh34 := .refl
     refine W_seq ?_
     refine W_region ?_
     refine L_i ((i4 : Int)) ((ds.length : Int)) (.bool (decide ((i4 : Int) < (ds.length : Int)))) rfl rfl kr kr rfl (rfl) ?_
     refine L_nil ?_
     refine W_seq ?_
     refine W_cond (decide ((i4 : Int) < (ds.length : Int))) kr (fun hb => ?_) (fun hb => ?_)
     ·
      have hlt4 : i4 < ds.length := by simp at hb; omega
      obtain _ | ⟨z, l2⟩ := l2
      · rw [List.append_nil] at hcat; subst hcat; omega
      subst hcat
      obtain ⟨no, W2, W3, x1, x2, x3, x4, x5, x6, HR⟩ := H34.recv hM (by omega)
      refine W_skip ?_
      refine W_seq ?_
      refine W_block ?_
      refine W_seq ?_
      refine W_region ?_
      refine L_g 1 kr ?_
      refine L_c rfl rfl kr (recv_qt (p := 1) (q := 0) (ctx := 0) (tag := 1) (room := 20) (((w34).ext T34).R) (by rw [x1]; decide) (by rw [x1]; decide) (by decide) (by decide) (by decide) (by decide) (by decide) (by decide) x2 x3 x5 (by rw [x4]; exact x6)) ?_
      rintro v344 h344 ⟨e344, b35, S35, C35, ro35, R344, Y344⟩
      dsimp only at e344 R344 Y344
      subst e344
      have w344 := ((w34).ext T34).go Y344 R344
      have T344 : Sm Nix h344 h344 := .refl
      refine L_g 5 kr ?_
      refine L_nil ?_
      refine W_seq ?_
      refine W_region ?_
      refine L_g 2 kr ?_
      refine L_nil ?_
      refine W_cond false kr (fun e => by cases e) (fun _ => ?_)
      refine W_skip ?_
      refine W_region ?_
      refine L_i ((i4 : Int)) (1) (nv ((i4 + 1 : Nat) : Int)) rfl rfl kr kr rfl (inc_ok (by omega)) ?_
      refine L_g 1 kr ?_
      refine L_nil ?_
      exact ⟨ds.length - (i4 + 1), by omega, i4 + 1, l1 ++ [z], l2, _, _, rfl, by simp, by rw [List.length_append, hl1]; rfl, HR, ((w344).ext T344), kr, kr, kr, kr, kr, kr, kr, kr, kr⟩
     ·
      have hge4 : l2 = [] := by
        have h1 : ¬ (i4 : Int) < (ds.length : Int) := by simpa using hb
        have h2 := congrArg List.length hcat
        rw [List.length_append] at h2
        exact List.length_eq_zero_iff.1 (by omega)
      subst hge4
      rw [List.append_nil] at hcat
      subst hcat
      obtain ⟨k5, W5, n5, hk5, s5, H5⟩ := H34.settle (by omega)
      refine W_exit ?_
      repeat with_reducible refine then_exit ?_
      refine exit_here ?_
      refine W_seq ?_
      refine W_seq ?_
      refine W_region ?_
      refine L_g 1 kr ?_
      refine L_c rfl rfl kr (settle2 (((w34).ext T34).R) n5 hk5 s5) ?_
      rintro v345 h345 ⟨e345, S345, C345, ro345, R345, Y345⟩
      dsimp only at e345 R345 Y345
      subst e345
      have w345 := ((w34).ext T34).go Y345 R345
      have T345 : Sm Nix h345 h345 := .refl
      refine L_g 1 kr ?_
      refine L_nil ?_
      refine W_cond false kr (fun e => by cases e) (fun _ => ?_)
      refine W_skip ?_
      refine W_seq ?_
      refine W_seq ?_
      refine W_region ?_
      refine L_g 1 kr ?_
      refine L_ln _ rfl rfl kr (((((w345).ext T345).ga).lenV (T := 29) (el := 3) kr)) ?_
      refine L_g 1 kr ?_
      refine L_nil ?_
      refine W_block ?_
      refine W_loop (fun mm fr hh => ∃ (j : Nat) (W42 : Wd) (G42 : Gh), mm = ((qs l).map nk).length - j ∧ (j ≤ ((qs l).map nk).length) ∧ (S4 K (c : Int) (M + l.length) ((qs l).drop j) W42) ∧ (Wl h W42 G42 va ((qs l).map nk) vc es hh) ∧ fr 2 = sv ∧ fr 7 = nv (E : Int) ∧ fr 8 = nv (c : Int) ∧ fr 59 = nv (r : Int) ∧ fr 12 = va ∧ fr 13 = vc ∧ fr 9 = ptr (G42.B .wd) ∧ fr 153 = va ∧ fr 154 = nv (((qs l).map nk).length : Int) ∧ fr 155 = nv (j : Int)) (((qs l).map nk).length) ?_ ?_
      ·
        exact ⟨0, W5, _, rfl, Nat.zero_le _, H5, ((w345).ext T345), kr, kr, kr, kr, kr, kr, kr, kr, kr, kr⟩
      rintro mm fr hh42 ⟨j, W42, G42, hm42, hj, H42, w42, y422, y427, y428, y4259, y4212, y4213, y429, y42153, y42154, y42155⟩
      refine W_set (k := 2) y422 ?_
      refine W_set (k := 7) y427 ?_
      refine W_set (k := 8) y428 ?_
      refine W_set (k := 59) y4259 ?_
      refine W_set (k := 12) y4212 ?_
      refine W_set (k := 13) y4213 ?_
      refine W_set (k := 9) y429 ?_
      refine W_set (k := 153) y42153 ?_
      refine W_set (k := 154) y42154 ?_
      refine W_set (k := 155) y42155 ?_
      have T42 : Sm Nix hh42 hh42 := .refl
      refine W_seq ?_
      refine W_region ?_
      refine L_i ((j : Int)) ((((qs l).map nk).length : Int)) (.bool (decide ((j : Int) < (((qs l).map nk).length : Int)))) rfl rfl kr kr rfl (rfl) ?_
      refine L_nil ?_
      refine W_seq ?_
      refine W_cond (decide ((j : Int) < (((qs l).map nk).length : Int))) kr (fun hb => ?_) (fun hb => ?_)
      ·
        have hjl : j < ((qs l).map nk).length := by simpa using hb
        have hqj : (qs l)[j]? = some (qs l)[j] := List.getElem?_eq_getElem (by omega)
        generalize (qs l)[j] = q at hqj
        rw [drop_cons hqj] at H42
        obtain ⟨a1, a2, a3, a4, a5, a6, a7⟩ := H42.test
        obtain ⟨b8, o8, i8, l8⟩ := el_int w42.ga hqj
        refine W_skip ?_
        refine W_seq ?_
        refine W_block ?_
        refine W_seq ?_
        refine W_region ?_
        refine L_ix _ rfl rfl kr kr (i8) ?_
        refine L_ld _ rfl rfl kr (l8) ?_
        refine L_g 1 kr ?_
        refine L_nil ?_
        refine W_seq ?_
        refine W_region ?_
        refine L_g 2 kr ?_
        refine L_c rfl rfl kr (test_send (p := 0) (no := q) (((w42).ext T42).R) (by rw [a1]; decide) a2 a3 a4 a5 a6) ?_
        rintro v346 h346 ⟨e346, S346, C346, ro346, R346, Y346⟩
        dsimp only at e346 R346 Y346
        subst e346
        have w346 := ((w42).ext T42).go Y346 R346
        have T346 : Sm Nix h346 h346 := .refl
        refine L_g 5 kr ?_
        refine L_nw (Al.cells [nv 0, nv 0, nv 0, nv 0]) .ptr rfl rfl kr ?_
        have c347 : Cl (h346.push (Al.cells [nv 0, nv 0, nv 0, nv 0]).obj) h346.next [nv 0, nv 0, nv 0, nv 0] := Cl.new h346 _
        have t347 : Sm Nix h346 (h346.push (Al.cells [nv 0, nv 0, nv 0, nv 0]).obj) := .push h346 _
        have n347 : (h346.push (Al.cells [nv 0, nv 0, nv 0, nv 0]).obj).next = h346.next + 1 := rfl
        generalize h346.push (Al.cells [nv 0, nv 0, nv 0, nv 0]).obj = h347 at c347 t347 n347 ⊢
        have T347 : Sm Nix h346 h347 := T346.ext t347
        have N347 := T347.nx
        obtain ⟨h348, e348, d348, t348, n348⟩ := Cl.storeN (P := Try.prog) (T := 43) (n := 4) (v := .agg ⟨[nv (W42.rq 0 q).st.src, nv (W42.rq 0 q).st.tag, nv (W42.rq 0 q).st.size, nv (W42.rq 0 q).st.err]⟩) (cs := [nv (W42.rq 0 q).st.src, nv (W42.rq 0 q).st.tag, nv (W42.rq 0 q).st.size, nv (W42.rq 0 q).st.err]) c347 rfl kr rfl rfl (List.all_eq_true.1 rfl)
        replace c347 := d348
        have T348 : Sm Nix h346 h348 := T347.trans t348 (fun x hx => by have hx : x = h346.next := hx; first | exact .inr (by omega) | exact .inl (by subst hx; first | rfl | exact .inl rfl | exact .inr rfl | exact .inr (.inl rfl) | exact .inr (.inr rfl) | (show _ < _; omega)))
        have N348 := T348.nx
        refine L_st _ rfl rfl rfl kr kr (e348) ?_
        refine L_g 3 kr ?_
        refine L_nil ?_
        refine W_seq ?_
        refine W_region ?_
        refine L_g 6 kr ?_
        refine L_nil ?_
        refine W_cond false kr (fun e => by cases e) (fun _ => ?_)
        refine W_skip ?_
        refine W_region ?_
        refine L_i ((j : Int)) (1) (nv ((j + 1 : Nat) : Int)) rfl rfl kr kr rfl (inc_ok (by have := qs_le l; omega)) ?_
        refine L_g 1 kr ?_
        refine L_nil ?_
        exact ⟨((qs l).map nk).length - (j + 1), by omega, j + 1, _, _, rfl, by omega, a7, ((w346).ext T348), kr, kr, kr, kr, kr, kr, kr, kr, kr, kr⟩
      ·
        have hge2 : ¬ (j : Int) < (((qs l).map nk).length : Int) := by simpa using hb
        rw [List.drop_of_length_le (by omega)] at H42
        have H9 := H42.next
        obtain ⟨v1, v2, v3, v4⟩ := H42.lists
        refine W_exit ?_
        repeat with_reducible refine then_exit ?_
        refine exit_here ?_
        refine W_seq ?_
        refine W_region ?_
        refine L_g 1 kr ?_
        refine L_c rfl rfl kr (lists_ok (p := 1) (((w42).ext T42).R) (by rw [v1]; decide)) ?_
        rintro v349 h349 ⟨e349, t349⟩
        try dsimp only at t349
        dsimp only at e349
        rw [v2, v3] at e349
        subst e349
        have T349 : Sm Nix hh42 h349 := T42.ext t349
        have N349 := T349.nx
        have M349 := t349.nx
        refine L_g 9 kr ?_
        refine L_nil ?_
        refine W_seq ?_
        refine W_region ?_
        refine L_g 12 kr ?_
        refine L_want kr ?_
        refine L_ln _ rfl rfl kr (((((w42).ext T349).gc).lenV (T := 29) (el := 3) kr)) ?_
        refine L_g 1 kr ?_
        refine L_want kr ?_
        refine L_ln _ rfl rfl kr (((((w42).ext T349).ga).lenV (T := 29) (el := 3) kr)) ?_
        refine L_want kr ?_
        refine L_i ((es.length : Int)) ((((qs l).map nk).length : Int)) (nv (ds.length : Int)) rfl rfl kr kr rfl (add_i (by have := qs_le l; omega) (by omega)) ?_
        refine L_g 1 kr ?_
        refine L_want kr ?_
        refine L_ln _ rfl rfl kr (Sd.len (P := Try.prog) (T := 23) (el := 5) kr ((((w42).ext T349).O).sd Hl)) ?_
        refine L_want kr ?_
        refine L_i ((ds.length : Int)) ((ds.length : Int)) (.bool false) rfl rfl kr kr rfl (by simp) ?_
        refine L_g 1 kr ?_
        refine L_nil ?_
        refine W_cond false kr (fun e => by cases e) (fun _ => ?_)
        refine W_skip ?_
        refine W_region ?_
        refine L_i ((r : Int)) (1) (nv ((r + 1 : Nat) : Int)) rfl rfl kr kr rfl (inc_ok (by omega)) ?_
        refine L_g 1 kr ?_
        refine L_nil ?_
        exact ⟨2 - (r + 1), by omega, r + 1, M + l.length, K, _, _, rfl, by omega, by omega, hK, H9, ((w42).ext T349).none, kr, kr, kr, kr, kr⟩
  ·
   refine W_exit ?_
   repeat with_reducible refine then_exit ?_
   refine exit_here ?_
   refine W_seq ?_
   refine W_region ?_
   refine L_c rfl rfl kr (works_ok) ?_
   rintro vw hw ew
   cases ew
   refine L_g 1 kr ?_
   refine L_nil ?_
   refine W_ret ?_
   repeat first | with_reducible refine then_ret ?_ | with_reducible refine blk_ret ?_
   refine done_of (v := .bool true) (.inl rfl) kr ?_
   exact rfl
end
end Go.Proofs.Ytmehemeoaplepaa
