/- Worlds of the program and walks of its functions. -/
import Derived.Test.YtmehemeoaplepaaZm
namespace Go.Proofs.Ytmehemeoaplepaa
noncomputable section
open Go Go.X Go.Arm Go.Mt
theorem catD_take {l : List (Option By)} {k : Nat} {d : By} (h : l[k]? = some (some d)) : (Wd.catD (l.take (k + 1))) = (Wd.catD (l.take k)) ++ d := by
 unfold Wd.catD
 rw [List.take_add_one, h, List.flatMap_append]
 simp
theorem catD_le (l : List (Option By)) (k : Nat) : (Wd.catD (l.take k)).length ≤ (Wd.catD l).length := by
 have : Wd.catD l = (Wd.catD (l.take k)) ++ Wd.catD (l.drop k) := by
  unfold Wd.catD
  rw [← List.flatMap_append, List.take_append_drop]
 rw [this, List.length_append]; omega
theorem add_b {a b n : Nat} (h1 : n = a + b) (h2 : n < 1000000000) : Value.int .i64 (IntKind.i64.wrap ((a : Int) + (b : Int))) = nv (n : Int) := by
 have : IntKind.i64.wrap ((a : Int) + (b : Int)) = (n : Int) := by rw [IntKind.wrap_i64]; omega
 rw [this]; rfl
set_option maxHeartbeats 1000000 in
theorem concat_ok {h : AH} {s : Value} {cs : List Value} {l : List (Option By)} (H : Sd h 1 s l.length cs) (hl : l.length < big) (hN : (Wd.catD l).length < big) (hc : ∀ (i : Nat) x, l[i]? = some x → ∃ (v : Value) (d : By), x = some d ∧ cs[i]? = some v ∧ Rb h v (d.map bv)) :
  Arm.Calls Try.prog 86 [s] h (fun r => Rb r.2 r.1 ((Wd.catD l).map bv) ∧ Sm Nix h r.2 ∧ ∀ b, vb r.1 = some b → h.next ≤ b ∧ b < r.2.next) := by
 have hl : l.length < 1000000000 := hl
 have hN9 : (Wd.catD l).length < 1000000000 := hN
 refine Calls_W 36 Try.f86 ?_
 have T0 : Sm Nix h h := .refl
 refine W_sg 1 kr (L_nil (W_sg 1 kr (L_nil (W_seq (W_seq (W_region (L_g 1 kr ?_)))))))
 refine L_ln _ rfl rfl kr ((H.ext T0).len (T := 65) (el := 23) kr) (L_g 1 kr (L_nil (W_block ?_)))
 refine W_loop (fun mm fr hh => ∃ (k : Nat), (k ≤ l.length) ∧ mm = l.length - k ∧ fr 0 = s ∧ fr 3 = nv ((Wd.catD (l.take k)).length : Int) ∧ fr 9 = s ∧ fr 10 = nv (l.length : Int) ∧ fr 11 = nv (k : Int) ∧ Sm Nix h hh) (l.length) ?_ ?_
 ·
  exact ⟨0, Nat.zero_le _, rfl, kr, kr, kr, kr, kr, T0⟩
 rintro mm456 fr456 h456 ⟨k, hk, hm456, y456_0, y456_3, y456_9, y456_10, y456_11, T456⟩
 have N456 := T456.nx
 refine W_set (k := 0) y456_0 (W_set (k := 3) y456_3 (W_set (k := 9) y456_9 (W_set (k := 10) y456_10 (W_set (k := 11) y456_11 (W_seq (W_region (L_i ((k : Int)) ((l.length : Int)) (.bool (decide ((k : Int) < (l.length : Int)))) rfl rfl kr kr rfl (rfl) (L_nil (W_seq ?_)))))))))
 refine W_cond (decide ((k : Int) < (l.length : Int))) kr (fun hb => ?_) (fun hb => ?_)
 ·
  have hlt : k < l.length := by simp at hb; omega
  obtain ⟨y, hy⟩ : ∃ y, l[k]? = some y := ⟨_, List.getElem?_eq_getElem hlt⟩
  obtain ⟨v, d, rfl, hv, hr9⟩ := hc k y hy
  obtain ⟨b9, o9, _, i9, l9⟩ := (H.ext T456).at (P := Try.prog) (T := 65) (el := 23) kr kr hlt .i64
  have l9' : aLoad Try.prog 23 ⟨b9, o9, none⟩ h456 = some v := ld_cell kr (by have := l9 0 (by decide); rw [Nat.add_zero, Nat.mul_one, Nat.add_zero] at this; rw [this]; exact hv)
  have hc1 := catD_take hy
  have hc2 : (Wd.catD (l.take (k + 1))).length ≤ (Wd.catD l).length := catD_le _ _
  refine W_skip (W_seq (W_block (W_seq (W_region (L_ix _ rfl rfl kr kr (i9) (L_ld _ rfl rfl kr (l9') (L_g 1 kr (L_nil (W_seq (W_region (L_g 2 kr ?_)))))))))))
  refine L_ln _ rfl rfl kr ((Rb.len (P := Try.prog) (T := 23) (el := 5) (hr9.ext T456) kr)) (L_i (((Wd.catD (l.take k)).length : Int)) (((d.map bv).length : Int)) (nv ((Wd.catD (l.take (k + 1))).length : Int)) rfl rfl kr kr rfl (add_b (by rw [hc1, List.length_append, List.length_map]) (by omega)) (L_g 1 kr (L_nil (W_sg 1 kr (L_i (((Wd.catD (l.take (k + 1))).length : Int)) (0) (.bool false) rfl rfl kr kr rfl (congrArg Value.bool (decide_eq_false (by omega))) (L_nil ?_))))))
  refine W_cond false kr (fun e => by cases e) (fun _ => ?_)
  refine W_skip (W_region (L_i ((k : Int)) (1) (nv ((k + 1 : Nat) : Int)) rfl rfl kr kr rfl (inc_ok (by omega)) (L_g 1 kr (L_nil ?_))))
  exact ⟨l.length - (k + 1), by omega, k + 1, by omega, rfl, kr, kr, kr, kr, kr, T456⟩
 ·
  have hge : k = l.length := by simp at hb; omega
  refine W_exit ?_
  repeat with_reducible refine then_exit ?_
  refine exit_here (W_seq ?_)
  rcases Nat.eq_zero_or_pos (Wd.catD l).length with h0 | h0
  ·
   refine W_rg 1 kr (L_c rfl rfl kr ((show Arm.Calls Try.prog 88 [(.slice none 0 0), nv ((Wd.catD (l.take k)).length : Int)] h456 (fun r => r.1 = (.slice none 0 0) ∧ Sm Nix h456 r.2) by rw [hge, List.take_length]; exact grow0_ok h0)) ?_)
   rintro v457 h457 ⟨e457, t457⟩
   try dsimp only at e457
   try dsimp only at t457
   subst e457
   have T457 := T456.ext t457
   have N457 := T457.nx
   have M457 := t457.nx
   refine L_g 1 kr (L_nil (W_seq (W_sg 1 kr (L_ln _ rfl rfl kr ((H.ext T457).len (T := 65) (el := 23) kr) (L_g 1 kr (L_nil (W_block ?_)))))))
   refine W_loop (fun mm fr hh => ∃ (k : Nat) (va : Value), (k ≤ l.length) ∧ (((Wd.catD l).length = 0 ∧ va = (.slice none 0 0)) ∨ Gb hh va (Wd.catD l).length ((Wd.catD (l.take k)).map bv)) ∧ (∀ b, vb va = some b → h.next ≤ b ∧ b < hh.next) ∧ mm = l.length - k ∧ fr 6 = va ∧ fr 25 = s ∧ fr 26 = nv (l.length : Int) ∧ fr 27 = nv (k : Int) ∧ Sm Nix h hh) (l.length) ?_ ?_
   ·
    exact ⟨0, (.slice none 0 0), Nat.zero_le _, (.inl ⟨h0, rfl⟩), (fun b hb => by cases hb), rfl, kr, kr, kr, kr, T457⟩
   rintro mm458 fr458 h458 ⟨k, va, hk2, hA, hva, hm458, y458_6, y458_25, y458_26, y458_27, T458⟩
   have N458 := T458.nx
   refine W_set (k := 6) y458_6 (W_set (k := 25) y458_25 (W_set (k := 26) y458_26 (W_set (k := 27) y458_27 (W_seq (W_region (L_i ((k : Int)) ((l.length : Int)) (.bool (decide ((k : Int) < (l.length : Int)))) rfl rfl kr kr rfl (rfl) (L_nil (W_seq ?_))))))))
   refine W_cond (decide ((k : Int) < (l.length : Int))) kr (fun hb => ?_) (fun hb => ?_)
   ·
    have hlt : k < l.length := by simp at hb; omega
    obtain ⟨y, hy⟩ : ∃ y, l[k]? = some y := ⟨_, List.getElem?_eq_getElem hlt⟩
    obtain ⟨v, d, rfl, hv, hr9⟩ := hc k y hy
    obtain ⟨b9, o9, _, i9, l9⟩ := (H.ext T458).at (P := Try.prog) (T := 65) (el := 23) kr kr hlt .i64
    have l9' : aLoad Try.prog 23 ⟨b9, o9, none⟩ h458 = some v := ld_cell kr (by have := l9 0 (by decide); rw [Nat.add_zero, Nat.mul_one, Nat.add_zero] at this; rw [this]; exact hv)
    have hc1 := catD_take hy
    have hc2 : (Wd.catD (l.take (k + 1))).length ≤ (Wd.catD l).length := catD_le _ _
    refine W_skip (W_seq (W_block (W_seq (W_region (L_ix _ rfl rfl kr kr (i9) (L_ld _ rfl rfl kr (l9') (L_g 1 kr (L_nil ?_))))))))
    rcases hA with ⟨hN0, rfl⟩ | hG
    ·
      have hd0 : d = [] := by
       have := congrArg List.length hc1
       rw [List.length_append] at this
       exact List.length_eq_zero_iff.1 (by omega)
      subst hd0
      have hrz := hr9.ext T458
      obtain ⟨az, cz, rfl⟩ := hr9.form
      refine W_rg 2 kr (L_bi (.slice none 0 0) h458 rfl rfl kr (vs := [(.slice none 0 0), .slice az 0 cz]) kr (bi_append (app_nil (P := Try.prog) (sT := 23) (xT := 23) (el := 5) (by_ := 1) (z := .int .u8 0) kr kr kr kr kr rfl hrz)) (L_g 1 kr (L_nil (W_region (L_i ((k : Int)) (1) (nv ((k + 1 : Nat) : Int)) rfl rfl kr kr rfl (inc_ok (by omega)) (L_g 1 kr (L_nil ?_)))))))
      exact ⟨l.length - (k + 1), by omega, k + 1, (.slice none 0 0), by omega, (.inl ⟨hN0, rfl⟩), (fun b hb => by cases hb), rfl, kr, kr, kr, kr, T458⟩
    ·
      refine W_region (L_g 2 kr ?_)
      obtain ⟨v459, h459, e459, g459, t459, n459, q459⟩ := hG.append (P := Try.prog) (sT := 23) (xT := 23) (el := 5) (by_ := 1) (z := .int .u8 0) kr kr kr kr kr rfl (hr9.ext T458) (bv_one d) (by rw [List.length_map, List.length_map, ← List.length_append, ← hc1]; exact hc2) (by omega)
      rw [← List.map_append, ← hc1] at g459
      refine L_bi v459 h459 rfl rfl kr (vs := [va, v]) kr (bi_append e459) ?_
      have T459 : Sm Nix h h459 := T458.trans t459 (fun b hb => .inr (hva b hb).1)
      have N459 := T459.nx
      refine L_g 1 kr (L_nil (W_region (L_i ((k : Int)) (1) (nv ((k + 1 : Nat) : Int)) rfl rfl kr kr rfl (inc_ok (by omega)) (L_g 1 kr (L_nil ?_)))))
      exact ⟨l.length - (k + 1), by omega, k + 1, v459, by omega, (.inr g459), (fun b hb => by rw [q459] at hb; rw [n459]; exact hva b hb), rfl, kr, kr, kr, kr, T459⟩
   ·
    have hge2 : k = l.length := by simp at hb; omega
    rw [hge2, List.take_length] at hA
    refine W_exit ?_
    repeat with_reducible refine then_exit ?_
    refine exit_here (W_sg 2 kr (L_nil (W_ret ?_)))
    repeat first | with_reducible refine then_ret ?_ | with_reducible refine blk_ret ?_
    refine done_of (v := va) (.inl rfl) kr ?_
    refine ⟨?_, T458, hva⟩
    rcases hA with ⟨hN0, rfl⟩ | hG
    · rw [List.length_eq_zero_iff.1 hN0]; exact Rb.nil
    · exact hG.rb
  ·
   refine W_rg 1 kr (L_c rfl rfl kr ((show Arm.Calls Try.prog 88 [(.slice none 0 0), nv ((Wd.catD (l.take k)).length : Int)] h456 (fun r => Gb r.2 r.1 (Wd.catD l).length [] ∧ Sm Nix h456 r.2 ∧ ∀ b, vb r.1 = some b → (h456).next ≤ b ∧ b < r.2.next) by rw [hge, List.take_length]; exact grow_ok h0 hN9)) ?_)
   rintro v460 h460 ⟨g460, t460, f460⟩
   dsimp only at g460 t460 f460
   have T460 := T456.ext t460
   have N460 := T460.nx
   refine L_g 1 kr (L_nil (W_seq (W_sg 1 kr (L_ln _ rfl rfl kr ((H.ext T460).len (T := 65) (el := 23) kr) (L_g 1 kr (L_nil (W_block ?_)))))))
   refine W_loop (fun mm fr hh => ∃ (k : Nat) (va : Value), (k ≤ l.length) ∧ (((Wd.catD l).length = 0 ∧ va = (.slice none 0 0)) ∨ Gb hh va (Wd.catD l).length ((Wd.catD (l.take k)).map bv)) ∧ (∀ b, vb va = some b → h.next ≤ b ∧ b < hh.next) ∧ mm = l.length - k ∧ fr 6 = va ∧ fr 25 = s ∧ fr 26 = nv (l.length : Int) ∧ fr 27 = nv (k : Int) ∧ Sm Nix h hh) (l.length) ?_ ?_
   ·
    exact ⟨0, v460, Nat.zero_le _, (.inr g460), (fun b hb => ⟨by have := (f460 b hb).1; omega, (f460 b hb).2⟩), rfl, kr, kr, kr, kr, T460⟩
   rintro mm461 fr461 h461 ⟨k, va, hk2, hA, hva, hm461, y461_6, y461_25, y461_26, y461_27, T461⟩
   have N461 := T461.nx
   refine W_set (k := 6) y461_6 (W_set (k := 25) y461_25 (W_set (k := 26) y461_26 (W_set (k := 27) y461_27 (W_seq (W_region (L_i ((k : Int)) ((l.length : Int)) (.bool (decide ((k : Int) < (l.length : Int)))) rfl rfl kr kr rfl (rfl) (L_nil (W_seq ?_))))))))
   refine W_cond (decide ((k : Int) < (l.length : Int))) kr (fun hb => ?_) (fun hb => ?_)
   ·
    have hlt : k < l.length := by simp at hb; omega
    obtain ⟨y, hy⟩ : ∃ y, l[k]? = some y := ⟨_, List.getElem?_eq_getElem hlt⟩
    obtain ⟨v, d, rfl, hv, hr9⟩ := hc k y hy
    obtain ⟨b9, o9, _, i9, l9⟩ := (H.ext T461).at (P := Try.prog) (T := 65) (el := 23) kr kr hlt .i64
    have l9' : aLoad Try.prog 23 ⟨b9, o9, none⟩ h461 = some v := ld_cell kr (by have := l9 0 (by decide); rw [Nat.add_zero, Nat.mul_one, Nat.add_zero] at this; rw [this]; exact hv)
    have hc1 := catD_take hy
    have hc2 : (Wd.catD (l.take (k + 1))).length ≤ (Wd.catD l).length := catD_le _ _
    refine W_skip (W_seq (W_block (W_seq (W_region (L_ix _ rfl rfl kr kr (i9) (L_ld _ rfl rfl kr (l9') (L_g 1 kr (L_nil ?_))))))))
    rcases hA with ⟨hN0, rfl⟩ | hG
    ·
      have hd0 : d = [] := by
       have := congrArg List.length hc1
       rw [List.length_append] at this
       exact List.length_eq_zero_iff.1 (by omega)
      subst hd0
      have hrz := hr9.ext T461
      obtain ⟨az, cz, rfl⟩ := hr9.form
      refine W_rg 2 kr (L_bi (.slice none 0 0) h461 rfl rfl kr (vs := [(.slice none 0 0), .slice az 0 cz]) kr (bi_append (app_nil (P := Try.prog) (sT := 23) (xT := 23) (el := 5) (by_ := 1) (z := .int .u8 0) kr kr kr kr kr rfl hrz)) (L_g 1 kr (L_nil (W_region (L_i ((k : Int)) (1) (nv ((k + 1 : Nat) : Int)) rfl rfl kr kr rfl (inc_ok (by omega)) (L_g 1 kr (L_nil ?_)))))))
      exact ⟨l.length - (k + 1), by omega, k + 1, (.slice none 0 0), by omega, (.inl ⟨hN0, rfl⟩), (fun b hb => by cases hb), rfl, kr, kr, kr, kr, T461⟩
    ·
      refine W_region (L_g 2 kr ?_)
      obtain ⟨v462, h462, e462, g462, t462, n462, q462⟩ := hG.append (P := Try.prog) (sT := 23) (xT := 23) (el := 5) (by_ := 1) (z := .int .u8 0) kr kr kr kr kr rfl (hr9.ext T461) (bv_one d) (by rw [List.length_map, List.length_map, ← List.length_append, ← hc1]; exact hc2) (by omega)
      rw [← List.map_append, ← hc1] at g462
      refine L_bi v462 h462 rfl rfl kr (vs := [va, v]) kr (bi_append e462) ?_
      have T462 : Sm Nix h h462 := T461.trans t462 (fun b hb => .inr (hva b hb).1)
      have N462 := T462.nx
      refine L_g 1 kr (L_nil (W_region (L_i ((k : Int)) (1) (nv ((k + 1 : Nat) : Int)) rfl rfl kr kr rfl (inc_ok (by omega)) (L_g 1 kr (L_nil ?_)))))
      exact ⟨l.length - (k + 1), by omega, k + 1, v462, by omega, (.inr g462), (fun b hb => by rw [q462] at hb; rw [n462]; exact hva b hb), rfl, kr, kr, kr, kr, T462⟩
   ·
    have hge2 : k = l.length := by simp at hb; omega
    rw [hge2, List.take_length] at hA
    refine W_exit ?_
    repeat with_reducible refine then_exit ?_
    refine exit_here (W_sg 2 kr (L_nil (W_ret ?_)))
    repeat first | with_reducible refine then_ret ?_ | with_reducible refine blk_ret ?_
    refine done_of (v := va) (.inl rfl) kr ?_
    refine ⟨?_, T461, hva⟩
    rcases hA with ⟨hN0, rfl⟩ | hG
    · rw [List.length_eq_zero_iff.1 hN0]; exact Rb.nil
    · exact hG.rb
end
end Go.Proofs.Ytmehemeoaplepaa
namespace Go.Proofs.Ytmehemeoaplepaa
noncomputable section
open Go Go.X Go.Arm Go.Mt
theorem kget_reqs {f : Nat → Value} {l : List Nat} {k : Nat} (h : k ∈ l) : kget (l.map fun (x : Nat) => ((x : Int), f x)) (k : Int) = some (f k) := by
 induction l with
 | nil => cases h
 | cons x l ih =>
  rw [List.map_cons]
  unfold kget
  by_cases e : x = k
  · subst e; rw [if_pos rfl]
  · rw [if_neg (show ¬ ((x : Int) = (k : Int)) by omega)]
    rcases List.mem_cons.1 h with h | h
    · exact (e h.symm).elim
    · exact ih h
theorem kget_exps {f : Nat → Value} {l : List ((Int × Int) × Nat)} {k : Int × Int} : kget (l.map fun e => (e.1, f e.2)) k = (kget l k).map f := by
 induction l with
 | nil => rfl
 | cons x l ih =>
  rw [List.map_cons]
  unfold kget
  by_cases e : x.1 = k
  · rw [if_pos e, if_pos e]; rfl
  · rw [if_neg e, if_neg e]; exact ih
theorem kdel_map {κ : Type} [DecidableEq κ] (f : Nat → Value) (l : List (κ × Nat)) (k : κ) : kdel (l.map fun e => (e.1, f e.2)) k = (kdel l k).map fun e => (e.1, f e.2) := by
 induction l with
 | nil => rfl
 | cons x l ih =>
  simp only [List.map_cons]
  unfold kdel
  split
  · rfl
  · rw [List.map_cons, ih]
theorem kdel_mem {κ β : Type} [DecidableEq κ] {l : List (κ × β)} {k : κ} {x : κ × β} (h : x ∈ kdel l k) : x ∈ l := by
 induction l with
 | nil => cases h
 | cons y l ih =>
  unfold kdel at h
  split at h
  · exact List.mem_cons_of_mem _ h
  · rcases List.mem_cons.1 h with h | h
    · exact List.mem_cons.2 (.inl h)
    · exact List.mem_cons_of_mem _ (ih h)
theorem look_rq {W : Wd} {G : Gh} {h : AH} {p no : Nat} {c : Bool} (R : Rep W G h) (hp : p < W.n) (hm : no ∈ (W.pr p).reqs) : aLookup Try.prog 78 (.map (some (G.B (.rqs p)))) (nv (no : Int)) c h = some (tupOk c (ptr (G.B (.rq p no))) true) := by
 rcases (R.rqs hp).1.lookup (P := Try.prog) (T := 78) (kt := 3) (el := 103) (z := .pointer none) kr kNum kr (no : Int) c with ⟨h1, _⟩ | ⟨v, x, h1, h2, h3⟩
 · rw [kget_reqs (f := fun k => ptr (G.B (.rq p k))) hm] at h1; cases h1
 · rw [kget_reqs (f := fun k => ptr (G.B (.rq p k))) hm] at h1; cases h1; subst h2; exact h3
theorem look_ex {W : Wd} {G : Gh} {h : AH} {p no : Nat} {k : Int × Int} {c : Bool} (R : Rep W G h) (hp : p < W.n) (hm : kget (W.pr p).exps k = some no) : aLookup Try.prog 79 (.map (some (G.B (.exs p)))) (k2 k) c h = some (tupOk c (ptr (G.B (.rq p no))) true) := by
 have hk : kget ((W.pr p).exps.map fun e => (e.1, ptr (G.B (.rq p e.2)))) k = some (ptr (G.B (.rq p no))) := by
   rw [kget_exps (f := fun k => ptr (G.B (.rq p k))), hm]; rfl
 rcases (R.exs hp).1.lookup (P := Try.prog) (T := 79) (kt := 153) (el := 103) (z := .pointer none) kr k_ori kr k c with ⟨h1, _⟩ | ⟨v, x, h1, h2, h3⟩
 · rw [hk] at h1; cases h1
 · rw [hk] at h1; cases h1; subst h2; exact h3
theorem kget_mem {κ β : Type} [DecidableEq κ] {l : List (κ × β)} {k : κ} {n : β} (h : kget l k = some n) : ∃ x, x ∈ l ∧ x.2 = n := by
 induction l with
 | nil => cases h
 | cons y l ih =>
  unfold kget at h
  split at h
  · exact ⟨y, List.mem_cons.2 (.inl rfl), Option.some.inj h⟩
  · obtain ⟨x, h1, h2⟩ := ih h; exact ⟨x, List.mem_cons_of_mem _ h1, h2⟩
theorem hclear_ok {W : Wd} {G : Gh} {h : AH} {p no : Nat} {f : Int} {W1 : Wd} (R : Rep W G h) (hp : p < W.n) (hm : no ∈ (W.pr p).reqs) (h0 : (W.rq p no).parts = 0) (he : W.put p f (.body no (W.rq p no).data) = some W1) :
   Arm.Calls Try.prog 99 [.agg ⟨[nv (no : Int)]⟩, ptr (G.B .wd), nv (p : Int), nv f] h (fun r => Nxt (W1.setRq p no { W1.rq p no with done := true }) G h r.2) := by
 have hr := (R.rel.pr p hp).rqp no hm
 unfold Wd.put at he
 split at he
 · rename_i hlw
   obtain rfl := Option.some.inj he
   obtain ⟨dv0, hd0, c0⟩ := R.rqL hp hr
   replace c0 : Arm.Cl h (G.B (.rq p no)) [nk (W.rq p no).no, nv (W.rq p no).peer, nv (W.rq p no).ctx, nv (W.rq p no).tag, nv (W.rq p no).room, .bool (W.rq p no).send, .bool (W.rq p no).sync, .bool (W.rq p no).pers, .bool (W.rq p no).act, .bool (W.rq p no).done, nk (W.rq p no).parts, nk (W.rq p no).size, dv0, G.S (.pcs p no), nk (W.rq p no).gone, G.S (.snt p no), .bool (W.rq p no).clr, nv (W.rq p no).st.src, nv (W.rq p no).st.tag, nv (W.rq p no).st.size, nv (W.rq p no).st.err] := c0
   obtain ⟨da, dc, rfl⟩ := hd0.1.form
   refine Calls_W 49 Try.f99 ?_
   have T0 : Sm Nix h h := .refl
   refine W_seq (W_region ?_)
   have m87 : ¬ (Gh.mut G) h.next ∧ ¬ (Gh.ro G) h.next := ⟨(R.ext T0).op.new (Nat.le_refl _), (R.ext T0).op.newr (Nat.le_refl _)⟩
   refine L_nwc [nv (no : Int)] .ptr rfl rfl kr fun h87 c87 t87 n87 => ?_
   have T87 := T0.ext t87
   have N87 := T87.nx
   refine L_nil (W_seq (W_drawn kr (D_l (l := [0,1,2,3,4,5,6,7,8,9,10,11,12,13]) kr kr Rk_nil (NS_b 3 kr (NS_ld _ rfl rfl kr kr kr ((R.ext T87).wdL.ld (o := 1) kr rfl) (NS_b 1 kr ?_))))))
   obtain ⟨b1, o1, i1, l1⟩ := (R.ext T87).prsAt (P := Try.prog) (T := 74) (el := 77) kr kr kr hp
   refine NS_ix _ rfl rfl kr kr kr kr (i1) (NS_ld _ rfl rfl kr kr kr (l1) (NS_b 2 kr (NS_ld _ rfl rfl kr kr kr (((R.ext T87).prL hp).ld (o := 1) kr rfl) (NS_b 1 kr (NS_ld _ rfl rfl kr kr kr (c87.ld (o := 0) kr rfl) (NS_lk _ rfl rfl kr kr kr kr (look_rq (R.ext T87) hp hm) (NS_b 1 kr (NS_nil (W_seq (W_seq (W_region ?_)))))))))))
   refine L_g 3 kr (L_ld _ rfl rfl kr ((c0.ext T87).ld (o := 10) kr rfl) (L_i (((W.rq p no).parts : Int)) (0) (.bool false) rfl rfl kr kr rfl (by simp; omega) (L_nil ?_)))
   refine W_cond false kr (fun e => by cases e) (fun _ => ?_)
   refine W_skip (W_seq (W_drawn kr (D_e (e := 11) (l := [0,1,2,3,4,5,6,7,8,9,10]) (s' := []) kr kr rfl kr Rk_nil (NS_b 4 kr (NS_ld _ rfl rfl kr kr kr (c87.ld (o := 0) kr rfl) (NS_b 3 kr (NS_ld _ rfl rfl kr kr kr ((c0.ext T87).ld (o := 12) kr rfl) (NS_b 2 kr (NS_nil (L_c rfl rfl kr (put_ok (R.ext T87) (x := .body no (W.rq p no).data) ⟨_, hd0.ext T87, rfl⟩ hlw) ?_))))))))))
   rintro v88 h88 N88
   dsimp only at N88
   obtain ⟨S88, C88, ro88, R88, Y88⟩ := N88
   have X88 := ((Gx.refl).trans (Gx.of T87)).trans Y88
   have hr_88 := (Y88.keep _ hr).1
   have m87_88 : ¬ (Gh.mut ⟨Gh.B G, S88, C88, ro88⟩) (h.next) ∧ ¬ (Gh.ro ⟨Gh.B G, S88, C88, ro88⟩) (h.next) := ⟨fun hm => (Y88.mu _ hm).elim m87.1 (fun e => by have := c87.lt; omega), fun hm => (Y88.ron _ hm).elim m87.2 (fun e => by have := c87.lt; omega)⟩
   replace c87 := c87.sm Y88.sm m87.1
   have T88 : Sm (Ow h (⟨Gh.B G, S88, C88, ro88⟩ : Gh)) h88 h88 := .refl
   refine L_nil ⟨rfl, ?_⟩
   refine D_l (l := []) kr kr Rk_nil (NS_nil (W_region (L_g 3 kr ?_)))
   obtain ⟨dv9, hd9, c9⟩ := (R88.ow T88).rqL hp hr_88
   replace c9 : Cl h88 (Gh.B (⟨Gh.B G, S88, C88, ro88⟩ : Gh) (.rq p no)) [nk ((W.setWay p f (W.way p f ++ [Pk.body no (W.rq p no).data])).rq p no).no, nv ((W.setWay p f (W.way p f ++ [Pk.body no (W.rq p no).data])).rq p no).peer, nv ((W.setWay p f (W.way p f ++ [Pk.body no (W.rq p no).data])).rq p no).ctx, nv ((W.setWay p f (W.way p f ++ [Pk.body no (W.rq p no).data])).rq p no).tag, nv ((W.setWay p f (W.way p f ++ [Pk.body no (W.rq p no).data])).rq p no).room, .bool ((W.setWay p f (W.way p f ++ [Pk.body no (W.rq p no).data])).rq p no).send, .bool ((W.setWay p f (W.way p f ++ [Pk.body no (W.rq p no).data])).rq p no).sync, .bool ((W.setWay p f (W.way p f ++ [Pk.body no (W.rq p no).data])).rq p no).pers, .bool ((W.setWay p f (W.way p f ++ [Pk.body no (W.rq p no).data])).rq p no).act, .bool ((W.setWay p f (W.way p f ++ [Pk.body no (W.rq p no).data])).rq p no).done, nk ((W.setWay p f (W.way p f ++ [Pk.body no (W.rq p no).data])).rq p no).parts, nk ((W.setWay p f (W.way p f ++ [Pk.body no (W.rq p no).data])).rq p no).size, dv9, (⟨Gh.B G, S88, C88, ro88⟩ : Gh).S (.pcs p no), nk ((W.setWay p f (W.way p f ++ [Pk.body no (W.rq p no).data])).rq p no).gone, (⟨Gh.B G, S88, C88, ro88⟩ : Gh).S (.snt p no), .bool ((W.setWay p f (W.way p f ++ [Pk.body no (W.rq p no).data])).rq p no).clr, nv ((W.setWay p f (W.way p f ++ [Pk.body no (W.rq p no).data])).rq p no).st.src, nv ((W.setWay p f (W.way p f ++ [Pk.body no (W.rq p no).data])).rq p no).st.tag, nv ((W.setWay p f (W.way p f ++ [Pk.body no (W.rq p no).data])).rq p no).st.size, nv ((W.setWay p f (W.way p f ++ [Pk.body no (W.rq p no).data])).rq p no).st.err] := c9
   obtain ⟨h89, e89, d89, t89, n89⟩ := c9.s1 4 9 (.bool true)
   have N89 : Nxt ((W.setWay p f (W.way p f ++ [Pk.body no (W.rq p no).data])).setRq p no { ((W.setWay p f (W.way p f ++ [Pk.body no (W.rq p no).data])).rq p no) with done := true }) (⟨Gh.B G, S88, C88, ro88⟩ : Gh) h88 h89 := (R88.ow T88).stRq hp hr_88 (r := { ((W.setWay p f (W.way p f ++ [Pk.body no (W.rq p no).data])).rq p no) with done := true }) hd9 d89 t89 rfl rfl rfl
   clear hd9
   refine L_st _ rfl rfl rfl kr kr (e89) ?_
   obtain ⟨S89, C89, ro89, R89, Y89⟩ := N89
   have X89 := ((X88).ow T88).trans Y89
   have hr_89 := (Y89.keep _ hr_88).1
   have m87_88_89 : ¬ (Gh.mut ⟨Gh.B (⟨Gh.B G, S88, C88, ro88⟩ : Gh), S89, C89, ro89⟩) (h.next) ∧ ¬ (Gh.ro ⟨Gh.B (⟨Gh.B G, S88, C88, ro88⟩ : Gh), S89, C89, ro89⟩) (h.next) := ⟨fun hm => (Y89.mu _ hm).elim m87_88.1 (fun e => by have := c87.lt; omega), fun hm => (Y89.ron _ hm).elim m87_88.2 (fun e => by have := c87.lt; omega)⟩
   have T89 : Sm (Ow h (⟨Gh.B (⟨Gh.B G, S88, C88, ro88⟩ : Gh), S89, C89, ro89⟩ : Gh)) h89 h89 := .refl
   refine L_nil ?_
   repeat with_reducible refine blk_norm ?_
   refine done_of (v := .tuple ⟨[]⟩) (.inr rfl) kr ?_
   exact ⟨_, _, _, (R89.ow T89), ((X89).ow T89)⟩
 · cases he
theorem hbody_ok {W : Wd} {G : Gh} {h : AH} {p no : Nat} {f q : Int} {d : By} {da : Option Addr} {dc : Nat} (R : Rep W G h) (hp : p < W.n) (hm : kget (W.pr p).exps (f, q) = some no) (hd : Dr h G.ro (.slice da (List.map bv d).length dc) d) (hl : d.length < big) (h0 : 0 ≤ (W.rq p no).room) :
  Arm.Calls Try.prog 101 [.agg ⟨[nv q, .slice da (List.map bv d).length dc]⟩, ptr (G.B .wd), nv (p : Int), nv f] h (fun r => Nxt ((W.setRq p no ((W.rq p no).gets d)).setPr p { W.pr p with exps := kdel (W.pr p).exps (f, q) }) G h r.2) := by
 obtain ⟨x0, hx0, rfl⟩ := kget_mem hm
 have hr := (R.rel.pr p hp).exp x0 hx0
 refine Calls_W 39 Try.f101 ?_
 have T0 : Sm Nix h h := .refl
 refine W_seq (W_region ?_)
 have m90 : ¬ (Gh.mut G) h.next ∧ ¬ (Gh.ro G) h.next := ⟨(R.ext T0).op.new (Nat.le_refl _), (R.ext T0).op.newr (Nat.le_refl _)⟩
 refine L_nwc [nv q, .slice da (List.map bv d).length dc] .ptr rfl rfl kr fun h90 c90 t90 n90 => ?_
 have T90 := T0.ext t90
 have N90 := T90.nx
 refine L_nil (W_sg 2 kr (L_ld _ rfl rfl kr (c90.ld (o := 0) kr rfl) (L_g 1 kr ?_)))
 have m91 : ¬ (Gh.mut G) h90.next ∧ ¬ (Gh.ro G) h90.next := ⟨(R.ext T90).op.new (Nat.le_refl _), (R.ext T90).op.newr (Nat.le_refl _)⟩
 refine L_nwc [nv 0, nv 0] .ptr rfl rfl kr fun h91 c91 t91 n91 => ?_
 replace c90 := c90.ext t91
 have T91 := T90.ext t91
 have N91 := T91.nx
 obtain ⟨h92, e92, d92, t92, n92⟩ := c91.sA 153 [nv f, nv q]
 replace c90 := c90.sn t92
 replace c91 := d92
 have T92 := T91.tr t92
 have N92 := T92.nx
 refine L_st _ rfl rfl rfl kr kr (e92) (L_nil (W_seq (W_drawn kr (D_e (e := 14) (l := [0,1,2,3,4,5,6,7,8,9,10,11,12,13]) (s' := []) kr kr rfl kr Rk_nil (NS_b 3 kr (NS_ld _ rfl rfl kr kr kr ((R.ext T92).wdL.ld (o := 1) kr rfl) (NS_b 1 kr ?_)))))))
 obtain ⟨b1, o1, i1, l1⟩ := (R.ext T92).prsAt (P := Try.prog) (T := 74) (el := 77) kr kr kr hp
 refine NS_ix _ rfl rfl kr kr kr kr (i1) (NS_ld _ rfl rfl kr kr kr (l1) (NS_b 2 kr (NS_ld _ rfl rfl kr kr kr (((R.ext T92).prL hp).ld (o := 2) kr rfl) (NS_ld _ rfl rfl kr kr kr (Cl.allN (n := 2) c91 rfl kr) (NS_lk _ rfl rfl kr kr kr kr (look_ex (R.ext T92) hp hm) (NS_b 1 kr (NS_ld _ rfl rfl kr kr kr (c90.ld (o := 1) kr rfl) (NS_nil (L_c rfl rfl kr (gets_ok (R.ext T92) hp hr (Dr.ext hd T92) hl h0) ?_)))))))))
 rintro v93 h93 N93
 dsimp only at N93
 obtain ⟨S93, C93, ro93, R93, Y93⟩ := N93
 have X93 := ((Gx.refl).trans (Gx.of T92)).trans Y93
 have m90_93 : ¬ (Gh.mut ⟨Gh.B G, S93, C93, ro93⟩) (h.next) ∧ ¬ (Gh.ro ⟨Gh.B G, S93, C93, ro93⟩) (h.next) := ⟨fun hm => (Y93.mu _ hm).elim m90.1 (fun e => by have := c90.lt; omega), fun hm => (Y93.ron _ hm).elim m90.2 (fun e => by have := c90.lt; omega)⟩
 replace c90 := c90.sm Y93.sm m90.1
 have m91_93 : ¬ (Gh.mut ⟨Gh.B G, S93, C93, ro93⟩) (h90.next) ∧ ¬ (Gh.ro ⟨Gh.B G, S93, C93, ro93⟩) (h90.next) := ⟨fun hm => (Y93.mu _ hm).elim m91.1 (fun e => by have := c91.lt; omega), fun hm => (Y93.ron _ hm).elim m91.2 (fun e => by have := c91.lt; omega)⟩
 replace c91 := c91.sm Y93.sm m91.1
 have T93 : Sm (Ow h (⟨Gh.B G, S93, C93, ro93⟩ : Gh)) h93 h93 := .refl
 refine L_nil ⟨rfl, ?_⟩
 refine D_l (l := []) kr kr Rk_nil (NS_nil (W_drawn kr (D_e (e := 11) (l := [0,1,2,3,4,5,6,7,8,9,10]) (s' := []) kr kr rfl kr Rk_nil (NS_b 3 kr (NS_ld _ rfl rfl kr kr kr ((R93.ow T93).wdL.ld (o := 1) kr rfl) (NS_b 1 kr ?_))))))
 obtain ⟨b1, o1, i1, l1⟩ := (R93.ow T93).prsAt (P := Try.prog) (T := 74) (el := 77) kr kr kr hp
 refine NS_ix _ rfl rfl kr kr kr kr (i1) (NS_ld _ rfl rfl kr kr kr (l1) (NS_b 2 kr (NS_ld _ rfl rfl kr kr kr (((R93.ow T93).prL hp).ld (o := 2) kr rfl) (NS_ld _ rfl rfl kr kr kr (Cl.allN (n := 2) c91 rfl kr) (NS_nil ?_)))))
 have hE := (R93.ow T93).exs hp
 obtain ⟨h94, e94, mp94, t94, n94⟩ := hE.1.delete (P := Try.prog) (T := 79) (el := 103) kr k_ori (f, q)
 have e9 := kdel_map (fun k => ptr (Gh.B (⟨Gh.B G, S93, C93, ro93⟩ : Gh) (.rq p k))) (W.pr p).exps (f, q)
 dsimp only at e9
 have mp994 : Mp h94 (Gh.B (⟨Gh.B G, S93, C93, ro93⟩ : Gh) (.exs p)) k2 Eq ((kdel (W.pr p).exps (f, q)).map fun e => (e.1, ptr (Gh.B (⟨Gh.B G, S93, C93, ro93⟩ : Gh) (.rq p e.2)))) := e9 ▸ mp94
 have N94 : Nxt ((W.setRq p x0.2 ((W.rq p x0.2).gets d)).setPr p { W.pr p with exps := kdel (W.pr p).exps (f, q) }) (⟨Gh.B G, S93, C93, ro93⟩ : Gh) h93 h94 := (R93.ow T93).setExs hp (fun x hx => ((R93.ow T93).rel.pr p hp).exp x (kdel_mem hx)) mp994 (hE.2.delete e94) t94
 refine L_bi _ _ rfl rfl kr kr (bi_delete e94) ?_
 obtain ⟨S94, C94, ro94, R94, Y94⟩ := N94
 have X94 := ((X93).ow T93).trans Y94
 have m90_93_94 : ¬ (Gh.mut ⟨Gh.B (⟨Gh.B G, S93, C93, ro93⟩ : Gh), S94, C94, ro94⟩) (h.next) ∧ ¬ (Gh.ro ⟨Gh.B (⟨Gh.B G, S93, C93, ro93⟩ : Gh), S94, C94, ro94⟩) (h.next) := ⟨fun hm => (Y94.mu _ hm).elim m90_93.1 (fun e => by have := c90.lt; omega), fun hm => (Y94.ron _ hm).elim m90_93.2 (fun e => by have := c90.lt; omega)⟩
 have m91_93_94 : ¬ (Gh.mut ⟨Gh.B (⟨Gh.B G, S93, C93, ro93⟩ : Gh), S94, C94, ro94⟩) (h90.next) ∧ ¬ (Gh.ro ⟨Gh.B (⟨Gh.B G, S93, C93, ro93⟩ : Gh), S94, C94, ro94⟩) (h90.next) := ⟨fun hm => (Y94.mu _ hm).elim m91_93.1 (fun e => by have := c91.lt; omega), fun hm => (Y94.ron _ hm).elim m91_93.2 (fun e => by have := c91.lt; omega)⟩
 have T94 : Sm (Ow h (⟨Gh.B (⟨Gh.B G, S93, C93, ro93⟩ : Gh), S94, C94, ro94⟩ : Gh)) h94 h94 := .refl
 refine L_nil ⟨rfl, ?_⟩
 refine D_l (l := []) kr kr Rk_nil (NS_nil ?_)
 repeat with_reducible refine blk_norm ?_
 refine done_of (v := .tuple ⟨[]⟩) (.inr rfl) kr ?_
 exact ⟨_, _, _, (R94.ow T94), ((X94).ow T94)⟩
end
end Go.Proofs.Ytmehemeoaplepaa
namespace Go.Proofs.Ytmehemeoaplepaa
noncomputable section
open Go Go.X Go.Arm Go.Mt
theorem _root_.Go.Arm.Ls.set1 {α : Type} {R : α → List Value → Prop} {x : α} {v : Value} : ∀ {l : List α} {cs : List Value} {i : Nat}, Ls R 1 l cs → R x [v] → Ls R 1 (l.set i x) (cs.set i v) := fun {l cs i} H hx => by
 induction H generalizing i with
 | nil => exact .nil
 | cons h1 h2 t ih =>
  obtain ⟨u, hu⟩ := List.length_eq_one_iff.1 h2
  subst hu
  cases i with
  | zero => exact .cons hx rfl t
  | succ i => exact .cons h1 rfl ih
set_option maxHeartbeats 1000000 in
theorem hpart_ok {W : Wd} {G : Gh} {h : AH} {p : Nat} {f q i : Int} {d : By} {ad : Addr} {nd cd : Nat} {W' : Wd} (R : Rep W G h) (hp : p < W.n) (hd : Dr h G.ro (.slice (some ad) nd cd) d) (he : W.handle p f (.part q i d) = some W') :
   Arm.Calls Try.prog 83 [.agg ⟨[nv q, nv i, .slice (some ad) nd cd]⟩, ptr (G.B .wd), nv (p : Int), nv f] h (fun r => Nxt W' G h r.2) := by
 unfold Wd.handle at he
 dsimp only at he
 split at he
 rotate_right
 · cases he
 rename_i no hkx
 split at he
 rotate_right
 · cases he
 rename_i hcn
 obtain ⟨hi0, hil, hNb, hCb, hrm⟩ := hcn
 obtain ⟨k, rfl⟩ : ∃ k : Nat, i = (k : Int) := ⟨i.toNat, by omega⟩
 simp only [Int.toNat_natCast] at he hil hCb
 obtain ⟨x0, hx0, hxe⟩ := kget_mem hkx
 have hr : G.C (.rq p no) ≠ .no := by rw [← hxe]; exact (R.rel.pr p hp).exp x0 hx0
 obtain ⟨dv0, hd0, c0⟩ := R.rqL hp hr
 replace c0 : Arm.Cl h (G.B (.rq p no)) [nk (W.rq p no).no, nv (W.rq p no).peer, nv (W.rq p no).ctx, nv (W.rq p no).tag, nv (W.rq p no).room, .bool (W.rq p no).send, .bool (W.rq p no).sync, .bool (W.rq p no).pers, .bool (W.rq p no).act, .bool (W.rq p no).done, nk (W.rq p no).parts, nk (W.rq p no).size, dv0, G.S (.pcs p no), nk (W.rq p no).gone, G.S (.snt p no), .bool (W.rq p no).clr, nv (W.rq p no).st.src, nv (W.rq p no).st.tag, nv (W.rq p no).st.size, nv (W.rq p no).st.err] := c0
 refine Calls_W 58 Try.f83 ?_
 have T0 : Sm Nix h h := .refl
 refine W_seq (W_region ?_)
 have m463 : ¬ (Gh.mut G) h.next ∧ ¬ (Gh.ro G) h.next := ⟨(R.ext T0).op.new (Nat.le_refl _), (R.ext T0).op.newr (Nat.le_refl _)⟩
 refine L_nwc [nv q, nv (k : Int), .slice (some ad) nd cd] .ptr rfl rfl kr fun h463 c463 t463 n463 => ?_
 have T463 := T0.ext t463
 have N463 := T463.nx
 refine L_nil (W_sg 2 kr (L_ld _ rfl rfl kr (c463.ld (o := 0) kr rfl) (L_g 1 kr ?_)))
 have m464 : ¬ (Gh.mut G) h463.next ∧ ¬ (Gh.ro G) h463.next := ⟨(R.ext T463).op.new (Nat.le_refl _), (R.ext T463).op.newr (Nat.le_refl _)⟩
 refine L_nwc [nv 0, nv 0] .ptr rfl rfl kr fun h464 c464 t464 n464 => ?_
 replace c463 := c463.ext t464
 have T464 := T463.ext t464
 have N464 := T464.nx
 obtain ⟨h465, e465, d465, t465, n465⟩ := c464.sA 153 [nv f, nv q]
 replace c463 := c463.sn t465
 replace c464 := d465
 have T465 := T464.tr t465
 have N465 := T465.nx
 refine L_st _ rfl rfl rfl kr kr (e465) (L_nil (W_seq (W_drawn kr (D_l (l := [0,1,2,3,4,5,6,7,8,9,10,11,12]) kr kr Rk_nil (NS_b 3 kr (NS_ld _ rfl rfl kr kr kr ((R.ext T465).wdL.ld (o := 1) kr rfl) (NS_b 1 kr ?_)))))))
 obtain ⟨b1, o1, i1, l1⟩ := (R.ext T465).prsAt (P := Try.prog) (T := 74) (el := 77) kr kr kr hp
 refine NS_ix _ rfl rfl kr kr kr kr (i1) (NS_ld _ rfl rfl kr kr kr (l1) (NS_b 2 kr (NS_ld _ rfl rfl kr kr kr (((R.ext T465).prL hp).ld (o := 2) kr rfl) (NS_ld _ rfl rfl kr kr kr (Cl.allN (n := 2) c464 rfl kr) (NS_lk _ rfl rfl kr kr kr kr (look_ex (R.ext T465) hp hkx) (NS_b 1 kr (NS_nil (W_seq (W_drawn kr (D_e (e := 9) (l := [0,1,2,3,4,5,6,7,8]) (s' := []) kr kr rfl kr Rk_nil (NS_b 3 kr ?_)))))))))))
 refine NS_ld _ rfl rfl kr kr kr ((c0.ext T465).ld (o := 13) kr rfl) (NS_b 1 kr (NS_ld _ rfl rfl kr kr kr (c463.ld (o := 1) kr rfl) (NS_b 1 kr (NS_ld _ rfl rfl kr kr kr (c463.ld (o := 2) kr rfl) ?_))))
 obtain ⟨cs0, A0, L0, hC0⟩ := (R.ext T465).pcs (p := p) (no := no) hp hr
 obtain ⟨pa, xa, i1, i2, i3, i4, i5⟩ := (A0).elem (P := Try.prog) (T := 65) (el := 23) kr kr kr hil .i64
 refine NS_ix _ rfl rfl kr kr kr kr (i1) (NS_nil ?_)
 obtain ⟨h466, e466, w466, t466, n466⟩ := i5 (.slice (some ad) nd cd) rfl rfl
 have N466 : Nxt (W.setRq p no (Wd.pget (W.rq p no) k d)) G h465 h466 := by
   have hDr := (R.ext T465).op.dr (t466.mono fun c hc => ⟨.pcs p no, hC0, vb_vbx hc⟩)
   have := (R.ext T465).setPcs (p := p) (no := no) hp hr (l := (W.rq p no).pcs.set k (some d)) (cs := cs0.set k (.slice (some ad) nd cd)) ((L0.mono (fun _ _ z => z.mono hDr)).set1 ⟨_, rfl, hDr _ _ (hd.ext T465), _, _, _, rfl⟩) (by rw [List.length_set]; exact w466) t466
   exact this
 refine L_st _ rfl rfl rfl kr kr (e466) ?_
 obtain ⟨S466, C466, ro466, R466, Y466⟩ := N466
 have X466 := ((Gx.refl).trans (Gx.of T465)).trans Y466
 have hr_466 := (Y466.keep _ hr).1
 have m463_466 : ¬ (Gh.mut ⟨Gh.B G, S466, C466, ro466⟩) (h.next) ∧ ¬ (Gh.ro ⟨Gh.B G, S466, C466, ro466⟩) (h.next) := ⟨fun hm => (Y466.mu _ hm).elim m463.1 (fun e => by have := c463.lt; omega), fun hm => (Y466.ron _ hm).elim m463.2 (fun e => by have := c463.lt; omega)⟩
 have m464_466 : ¬ (Gh.mut ⟨Gh.B G, S466, C466, ro466⟩) (h463.next) ∧ ¬ (Gh.ro ⟨Gh.B G, S466, C466, ro466⟩) (h463.next) := ⟨fun hm => (Y466.mu _ hm).elim m464.1 (fun e => by have := c464.lt; omega), fun hm => (Y466.ron _ hm).elim m464.2 (fun e => by have := c464.lt; omega)⟩
 replace c464 := c464.sm Y466.sm m464.1
 have T466 : Sm (Ow h (⟨Gh.B G, S466, C466, ro466⟩ : Gh)) h466 h466 := .refl
 obtain ⟨dvz, hdz, cz⟩ := R466.rqL (p := p) hp hr_466
 rw [Wd.setRq_at] at hdz cz
 replace cz : Arm.Cl h466 (G.B (.rq p no)) [nk (W.rq p no).no, nv (W.rq p no).peer, nv (W.rq p no).ctx, nv (W.rq p no).tag, nv (W.rq p no).room, .bool (W.rq p no).send, .bool (W.rq p no).sync, .bool (W.rq p no).pers, .bool (W.rq p no).act, .bool (W.rq p no).done, nk (W.rq p no).parts, nk (W.rq p no).size, dvz, (⟨G.B, S466, C466, ro466⟩ : Gh).S (.pcs p no), nk (W.rq p no).gone, (⟨G.B, S466, C466, ro466⟩ : Gh).S (.snt p no), .bool (W.rq p no).clr, nv (W.rq p no).st.src, nv (W.rq p no).st.tag, nv (W.rq p no).st.size, nv (W.rq p no).st.err] := cz
 refine L_nil ⟨rfl, ?_⟩
 refine D_l (l := []) kr kr Rk_nil (NS_nil (W_seq (W_seq ?_)))
 by_cases hany : (Wd.pget (W.rq p no) k d).pcs.any Option.isNone = true
 ·
   rw [if_pos hany] at he
   obtain rfl := Option.some.inj he
   refine W_rg 3 kr (L_ld _ rfl rfl kr ((cz.sm T466 (fun hx => hx.2.1 ⟨.rq p no, hr_466, rfl⟩)).ld (o := 13) kr rfl) (L_c rfl rfl kr (pmiss_ok (p := p) (no := no) (R466.ow T466) hp hr_466 (by rw [Wd.setRq_at]; show (List.set _ _ _).length < _; rw [List.length_set]; exact hNb)) ?_))
   rintro v467 h467 ⟨e467, t467⟩
   try dsimp only at t467
   dsimp only at e467
   rw [Wd.setRq_at, hany] at e467
   subst e467
   have T467 : Sm (Ow h (⟨Gh.B G, S466, C466, ro466⟩ : Gh)) h466 h467 := T466.ext t467
   have N467 := T467.nx
   have M467 := t467.nx
   refine L_nil ?_
   refine W_cond true kr (fun _ => ?_) (fun e => by cases e)
   refine W_ret ?_
   repeat first | with_reducible refine then_ret ?_ | with_reducible refine blk_ret ?_
   refine done_of (v := .tuple ⟨[]⟩) (.inl rfl) kr ?_
   exact ⟨_, _, _, (R466.ow T467), ((X466).ow T467)⟩
 ·
   rw [if_neg hany] at he
   obtain rfl := Option.some.inj he
   refine W_rg 3 kr (L_ld _ rfl rfl kr ((cz.sm T466 (fun hx => hx.2.1 ⟨.rq p no, hr_466, rfl⟩)).ld (o := 13) kr rfl) (L_c rfl rfl kr (pmiss_ok (p := p) (no := no) (R466.ow T466) hp hr_466 (by rw [Wd.setRq_at]; show (List.set _ _ _).length < _; rw [List.length_set]; exact hNb)) ?_))
   rintro v468 h468 ⟨e468, t468⟩
   try dsimp only at t468
   dsimp only at e468
   rw [Wd.setRq_at, Bool.eq_false_iff.2 hany] at e468
   subst e468
   replace c464 := c464.ext t468
   have T468 : Sm (Ow h (⟨Gh.B G, S466, C466, ro466⟩ : Gh)) h466 h468 := T466.ext t468
   have N468 := T468.nx
   have M468 := t468.nx
   refine L_nil ?_
   refine W_cond false kr (fun e => by cases e) (fun _ => ?_)
   refine W_skip (W_sg 4 kr (L_ld _ rfl rfl kr ((cz.sm T468 (fun hx => hx.2.1 ⟨.rq p no, hr_466, rfl⟩)).ld (o := 13) kr rfl) ?_))
   obtain ⟨cs8, A8, L8, hC8⟩ := (R466.ow T468).pcs (p := p) (no := no) hp hr_466
   refine L_c rfl rfl kr (concat_ok A8.sd (by rw [Wd.setRq_at]; show (List.set _ _ _).length < _; rw [List.length_set]; exact hNb) (by rw [Wd.setRq_at]; exact hCb) (fun i x hx => by
    obtain ⟨c, ⟨v, rfl, hv⟩, _, hcc⟩ := L8.get hx
    have h9 := hcc 0 (by decide)
    rw [Nat.mul_one, Nat.add_zero] at h9
    cases x with
    | none =>
     have : (Wd.pget (W.rq p no) k d).pcs.any Option.isNone = true := List.any_eq_true.2 ⟨none, List.mem_of_getElem? (by rw [Wd.setRq_at] at hx; exact hx), rfl⟩
     exact (hany this).elim
    | some d9 => exact ⟨v, d9, rfl, h9, hv.1.1⟩)) ?_
   rintro v469 h469 ⟨r469, t469, f469⟩
   dsimp only at r469 t469 f469
   rw [Wd.setRq_at] at r469
   obtain ⟨R469, X469⟩ := (R466.ow T468).more (Q := fun b => vb v469 = some b) t469 (fun b hb => (f469 b hb).1) (fun b hb => (f469 b hb).2)
   obtain ⟨va469, vc469, ev469⟩ := r469.form
   subst ev469
   have hdv : Dr h469 ((Gh.more (⟨Gh.B G, S466, C466, ro466⟩ : Gh) (fun b => vb (Value.slice va469 (List.map bv (Wd.catD (Wd.pget (W.rq p no) k d).pcs)).length vc469) = some b))).ro (.slice va469 (List.map bv (Wd.catD (Wd.pget (W.rq p no) k d).pcs)).length vc469) (Wd.catD (Wd.pget (W.rq p no) k d).pcs) := ⟨r469, fun b hb => .inr hb⟩
   have mZ8 : ¬ (Gh.mut (Gh.more (⟨Gh.B G, S466, C466, ro466⟩ : Gh) (fun b => vb (Value.slice va469 (List.map bv (Wd.catD (Wd.pget (W.rq p no) k d).pcs)).length vc469) = some b))) (h463.next) ∧ ¬ (Gh.ro (Gh.more (⟨Gh.B G, S466, C466, ro466⟩ : Gh) (fun b => vb (Value.slice va469 (List.map bv (Wd.catD (Wd.pget (W.rq p no) k d).pcs)).length vc469) = some b))) (h463.next) := ⟨fun hm => by obtain ⟨r, q1, q2⟩ := hm; rw [V_more] at q2; exact m464_466.1 ⟨r, q1, q2⟩, fun hm => hm.elim m464_466.2 (fun e => by have := (f469 _ e).1; have := c464.lt; omega)⟩
   have hrM : Gh.C (Gh.more (⟨Gh.B G, S466, C466, ro466⟩ : Gh) (fun b => vb (Value.slice va469 (List.map bv (Wd.catD (Wd.pget (W.rq p no) k d).pcs)).length vc469) = some b)) (.rq p no) ≠ .no := hr_466
   have X469x := (((X466).ow T468)).trans X469
   replace c464 := c464.ext t469
   have T469 : Sm Nix h469 h469 := .refl
   refine L_c rfl rfl kr (gets_ok (R469.ext T469) hp hrM (Dr.ext hdv T469) hCb (by rw [Wd.setRq_at]; exact hrm)) ?_
   rintro v470 h470 N470
   dsimp only at N470
   obtain ⟨S470, C470, ro470, R470, Y470⟩ := N470
   have X470 := ((X469x).trans (Gx.of T469)).trans Y470
   have hr_470 := (Y470.keep _ hrM).1
   have mZ8_470 : ¬ (Gh.mut ⟨Gh.B (Gh.more (⟨Gh.B G, S466, C466, ro466⟩ : Gh) (fun b => vb (Value.slice va469 (List.map bv (Wd.catD (Wd.pget (W.rq p no) k d).pcs)).length vc469) = some b)), S470, C470, ro470⟩) (h463.next) ∧ ¬ (Gh.ro ⟨Gh.B (Gh.more (⟨Gh.B G, S466, C466, ro466⟩ : Gh) (fun b => vb (Value.slice va469 (List.map bv (Wd.catD (Wd.pget (W.rq p no) k d).pcs)).length vc469) = some b)), S470, C470, ro470⟩) (h463.next) := ⟨fun hm => (Y470.mu _ hm).elim mZ8.1 (fun e => by have := c464.lt; omega), fun hm => (Y470.ron _ hm).elim mZ8.2 (fun e => by have := c464.lt; omega)⟩
   replace c464 := c464.sm Y470.sm mZ8.1
   have T470 : Sm (Ow h (⟨Gh.B (Gh.more (⟨Gh.B G, S466, C466, ro466⟩ : Gh) (fun b => vb (Value.slice va469 (List.map bv (Wd.catD (Wd.pget (W.rq p no) k d).pcs)).length vc469) = some b)), S470, C470, ro470⟩ : Gh)) h470 h470 := .refl
   have eW9 : ((W.setRq p no (Wd.pget (W.rq p no) k d)).setRq p no (((W.setRq p no (Wd.pget (W.rq p no) k d)).rq p no).gets (Wd.catD (Wd.pget (W.rq p no) k d).pcs))) = W.setRq p no ((Wd.pget (W.rq p no) k d).gets (Wd.catD (Wd.pget (W.rq p no) k d).pcs)) := by simp only [Wd.setRq_at, Wd.setRq_setRq]
   rw [eW9] at R470
   refine L_nil (W_drawn kr (D_e (e := 11) (l := [0,1,2,3,4,5,6,7,8,9,10]) (s' := []) kr kr rfl kr Rk_nil (NS_b 3 kr (NS_ld _ rfl rfl kr kr kr ((R470.ow T470).wdL.ld (o := 1) kr rfl) (NS_b 1 kr ?_)))))
   obtain ⟨b1, o1, i1, l1⟩ := (R470.ow T470).prsAt (P := Try.prog) (T := 74) (el := 77) kr kr kr hp
   refine NS_ix _ rfl rfl kr kr kr kr (i1) (NS_ld _ rfl rfl kr kr kr (l1) (NS_b 2 kr (NS_ld _ rfl rfl kr kr kr (((R470.ow T470).prL hp).ld (o := 2) kr rfl) (NS_ld _ rfl rfl kr kr kr (Cl.allN (n := 2) c464 rfl kr) (NS_nil ?_)))))
   have hE := (R470.ow T470).exs (p := p) hp
   obtain ⟨h471, e471, mp471, t471, n471⟩ := hE.1.delete (P := Try.prog) (T := 79) (el := 103) kr k_ori (f, q)
   have e9 := kdel_map (fun k => ptr (Gh.B (⟨Gh.B (Gh.more (⟨Gh.B G, S466, C466, ro466⟩ : Gh) (fun b => vb (Value.slice va469 (List.map bv (Wd.catD (Wd.pget (W.rq p no) k d).pcs)).length vc469) = some b)), S470, C470, ro470⟩ : Gh) (.rq p k))) (W.pr p).exps (f, q)
   dsimp only at e9
   have mp9471 : Mp h471 (Gh.B (⟨Gh.B (Gh.more (⟨Gh.B G, S466, C466, ro466⟩ : Gh) (fun b => vb (Value.slice va469 (List.map bv (Wd.catD (Wd.pget (W.rq p no) k d).pcs)).length vc469) = some b)), S470, C470, ro470⟩ : Gh) (.exs p)) k2 Eq ((kdel (W.pr p).exps (f, q)).map fun e => (e.1, ptr (Gh.B (⟨Gh.B (Gh.more (⟨Gh.B G, S466, C466, ro466⟩ : Gh) (fun b => vb (Value.slice va469 (List.map bv (Wd.catD (Wd.pget (W.rq p no) k d).pcs)).length vc469) = some b)), S470, C470, ro470⟩ : Gh) (.rq p e.2)))) := e9 ▸ mp471
   have N471 : Nxt ((W.setRq p no ((Wd.pget (W.rq p no) k d).gets (Wd.catD (Wd.pget (W.rq p no) k d).pcs))).setPr p { W.pr p with exps := kdel (W.pr p).exps (f, q) }) (⟨Gh.B (Gh.more (⟨Gh.B G, S466, C466, ro466⟩ : Gh) (fun b => vb (Value.slice va469 (List.map bv (Wd.catD (Wd.pget (W.rq p no) k d).pcs)).length vc469) = some b)), S470, C470, ro470⟩ : Gh) h470 h471 := (R470.ow T470).setExs (p := p) hp (fun x hx => ((R470.ow T470).rel.pr p hp).exp x (kdel_mem hx)) mp9471 (hE.2.delete e471) t471
   refine L_bi _ _ rfl rfl kr kr (bi_delete e471) ?_
   obtain ⟨S471, C471, ro471, R471, Y471⟩ := N471
   have X471 := ((X470).ow T470).trans Y471
   have hr_471 := (Y471.keep _ hr_470).1
   have mZ8_470_471 : ¬ (Gh.mut ⟨Gh.B (⟨Gh.B (Gh.more (⟨Gh.B G, S466, C466, ro466⟩ : Gh) (fun b => vb (Value.slice va469 (List.map bv (Wd.catD (Wd.pget (W.rq p no) k d).pcs)).length vc469) = some b)), S470, C470, ro470⟩ : Gh), S471, C471, ro471⟩) (h463.next) ∧ ¬ (Gh.ro ⟨Gh.B (⟨Gh.B (Gh.more (⟨Gh.B G, S466, C466, ro466⟩ : Gh) (fun b => vb (Value.slice va469 (List.map bv (Wd.catD (Wd.pget (W.rq p no) k d).pcs)).length vc469) = some b)), S470, C470, ro470⟩ : Gh), S471, C471, ro471⟩) (h463.next) := ⟨fun hm => (Y471.mu _ hm).elim mZ8_470.1 (fun e => by have := c464.lt; omega), fun hm => (Y471.ron _ hm).elim mZ8_470.2 (fun e => by have := c464.lt; omega)⟩
   have T471 : Sm (Ow h (⟨Gh.B (⟨Gh.B (Gh.more (⟨Gh.B G, S466, C466, ro466⟩ : Gh) (fun b => vb (Value.slice va469 (List.map bv (Wd.catD (Wd.pget (W.rq p no) k d).pcs)).length vc469) = some b)), S470, C470, ro470⟩ : Gh), S471, C471, ro471⟩ : Gh)) h471 h471 := .refl
   refine L_nil ⟨rfl, ?_⟩
   refine D_l (l := []) kr kr Rk_nil (NS_nil ?_)
   repeat with_reducible refine blk_norm ?_
   refine done_of (v := .tuple ⟨[]⟩) (.inr rfl) kr ?_
   exact ⟨_, _, _, (R471.ow T471), ((X471).ow T471)⟩
end
end Go.Proofs.Ytmehemeoaplepaa
namespace Go.Proofs.Ytmehemeoaplepaa
noncomputable section
open Go Go.X Go.Arm Go.Mt
theorem hclearp_ok {W : Wd} {G : Gh} {h : AH} {p no : Nat} {f : Int} {W' : Wd} (R : Rep W G h) (hp : p < W.n) (hm : no ∈ (W.pr p).reqs) (h0 : (W.rq p no).parts ≠ 0) (he : (W.setRq p no { W.rq p no with clr := true }).sparts p no = some W') :
  Arm.Calls Try.prog 99 [.agg ⟨[nv (no : Int)]⟩, ptr (G.B .wd), nv (p : Int), nv f] h (fun r => Nxt W' G h r.2) := by
 have hr := (R.rel.pr p hp).rqp no hm
 obtain ⟨dv0, hd0, c0⟩ := R.rqL hp hr
 replace c0 : Arm.Cl h (G.B (.rq p no)) [nk (W.rq p no).no, nv (W.rq p no).peer, nv (W.rq p no).ctx, nv (W.rq p no).tag, nv (W.rq p no).room, .bool (W.rq p no).send, .bool (W.rq p no).sync, .bool (W.rq p no).pers, .bool (W.rq p no).act, .bool (W.rq p no).done, nk (W.rq p no).parts, nk (W.rq p no).size, dv0, G.S (.pcs p no), nk (W.rq p no).gone, G.S (.snt p no), .bool (W.rq p no).clr, nv (W.rq p no).st.src, nv (W.rq p no).st.tag, nv (W.rq p no).st.size, nv (W.rq p no).st.err] := c0
 refine Calls_W 49 Try.f99 ?_
 have T0 : Sm Nix h h := .refl
 refine W_seq (W_region ?_)
 have m472 : ¬ (Gh.mut G) h.next ∧ ¬ (Gh.ro G) h.next := ⟨(R.ext T0).op.new (Nat.le_refl _), (R.ext T0).op.newr (Nat.le_refl _)⟩
 refine L_nwc [nv (no : Int)] .ptr rfl rfl kr fun h472 c472 t472 n472 => ?_
 have T472 := T0.ext t472
 have N472 := T472.nx
 refine L_nil (W_seq (W_drawn kr (D_l (l := [0,1,2,3,4,5,6,7,8,9,10,11,12,13]) kr kr Rk_nil (NS_b 3 kr (NS_ld _ rfl rfl kr kr kr ((R.ext T472).wdL.ld (o := 1) kr rfl) (NS_b 1 kr ?_))))))
 obtain ⟨b1, o1, i1, l1⟩ := (R.ext T472).prsAt (P := Try.prog) (T := 74) (el := 77) kr kr kr hp
 refine NS_ix _ rfl rfl kr kr kr kr (i1) (NS_ld _ rfl rfl kr kr kr (l1) (NS_b 2 kr (NS_ld _ rfl rfl kr kr kr (((R.ext T472).prL hp).ld (o := 1) kr rfl) (NS_b 1 kr (NS_ld _ rfl rfl kr kr kr (c472.ld (o := 0) kr rfl) (NS_lk _ rfl rfl kr kr kr kr (look_rq (R.ext T472) hp hm) (NS_b 1 kr (NS_nil (W_seq (W_seq (W_region ?_)))))))))))
 refine L_g 3 kr (L_ld _ rfl rfl kr ((c0.ext T472).ld (o := 10) kr rfl) (L_i (((W.rq p no).parts : Int)) (0) (.bool true) rfl rfl kr kr rfl (congrArg Value.bool (decide_eq_true (by omega))) (L_nil ?_)))
 refine W_cond true kr (fun _ => ?_) (fun e => by cases e)
 refine W_seq (W_region (L_g 3 kr ?_))
 obtain ⟨dv9, hd9, c9⟩ := (R.ext T472).rqL hp hr
 replace c9 : Cl h472 (Gh.B G (.rq p no)) [nk (W.rq p no).no, nv (W.rq p no).peer, nv (W.rq p no).ctx, nv (W.rq p no).tag, nv (W.rq p no).room, .bool (W.rq p no).send, .bool (W.rq p no).sync, .bool (W.rq p no).pers, .bool (W.rq p no).act, .bool (W.rq p no).done, nk (W.rq p no).parts, nk (W.rq p no).size, dv9, G.S (.pcs p no), nk (W.rq p no).gone, G.S (.snt p no), .bool (W.rq p no).clr, nv (W.rq p no).st.src, nv (W.rq p no).st.tag, nv (W.rq p no).st.size, nv (W.rq p no).st.err] := c9
 obtain ⟨h473, e473, d473, t473, n473⟩ := c9.s1 4 16 (.bool true)
 have N473 : Nxt (W.setRq p no { (W.rq p no) with clr := true }) G h472 h473 := (R.ext T472).stRq hp hr (r := { (W.rq p no) with clr := true }) hd9 d473 t473 rfl rfl rfl
 clear hd9
 refine L_st _ rfl rfl rfl kr kr (e473) ?_
 obtain ⟨S473, C473, ro473, R473, Y473⟩ := N473
 have X473 := ((Gx.refl).trans (Gx.of T472)).trans Y473
 have hr_473 := (Y473.keep _ hr).1
 have m472_473 : ¬ (Gh.mut ⟨Gh.B G, S473, C473, ro473⟩) (h.next) ∧ ¬ (Gh.ro ⟨Gh.B G, S473, C473, ro473⟩) (h.next) := ⟨fun hm => (Y473.mu _ hm).elim m472.1 (fun e => by have := c472.lt; omega), fun hm => (Y473.ron _ hm).elim m472.2 (fun e => by have := c472.lt; omega)⟩
 replace c472 := c472.sm Y473.sm m472.1
 have T473 : Sm (Ow h (⟨Gh.B G, S473, C473, ro473⟩ : Gh)) h473 h473 := .refl
 refine L_nil (W_sg 3 kr (L_c rfl rfl kr (sparts_ok (R473.ow T473) hp hr_473 he) ?_))
 rintro v474 h474 N474
 dsimp only at N474
 obtain ⟨S474, C474, ro474, R474, Y474⟩ := N474
 have X474 := ((X473).ow T473).trans Y474
 have hr_474 := (Y474.keep _ hr_473).1
 have m472_473_474 : ¬ (Gh.mut ⟨Gh.B (⟨Gh.B G, S473, C473, ro473⟩ : Gh), S474, C474, ro474⟩) (h.next) ∧ ¬ (Gh.ro ⟨Gh.B (⟨Gh.B G, S473, C473, ro473⟩ : Gh), S474, C474, ro474⟩) (h.next) := ⟨fun hm => (Y474.mu _ hm).elim m472_473.1 (fun e => by have := c472.lt; omega), fun hm => (Y474.ron _ hm).elim m472_473.2 (fun e => by have := c472.lt; omega)⟩
 have T474 : Sm (Ow h (⟨Gh.B (⟨Gh.B G, S473, C473, ro473⟩ : Gh), S474, C474, ro474⟩ : Gh)) h474 h474 := .refl
 refine L_nil (W_ret ?_)
 repeat first | with_reducible refine then_ret ?_ | with_reducible refine blk_ret ?_
 refine done_of (v := .tuple ⟨[]⟩) (.inl rfl) kr ?_
 exact ⟨_, _, _, (R474.ow T474), ((X474).ow T474)⟩
theorem hclr_ok {W : Wd} {G : Gh} {h : AH} {p : Nat} {f q : Int} {W' : Wd} (R : Rep W G h) (hp : p < W.n) (he : W.handle p f (.clear q) = some W') :
   Arm.Calls Try.prog 99 [.agg ⟨[nv q]⟩, ptr (G.B .wd), nv (p : Int), nv f] h (fun r => Nxt W' G h r.2) := by
 unfold Wd.handle at he
 dsimp only at he
 split at he
 rotate_right
 · cases he
 rename_i hcr
 obtain ⟨i, rfl⟩ : ∃ i : Nat, q = (i : Int) := ⟨q.toNat, by omega⟩
 simp only [Int.toNat_natCast] at he hcr
 split at he
 · rename_i hcp
   rw [Option.map_eq_some_iff] at he
   obtain ⟨W2, hw2, rfl⟩ := he
   exact hclear_ok R hp hcr.2 hcp hw2
 · rename_i hcp
   exact hclearp_ok R hp hcr.2 hcp he
end
end Go.Proofs.Ytmehemeoaplepaa
namespace Go.Proofs.Ytmehemeoaplepaa
noncomputable section
open Go Go.X Go.Arm Go.Mt
theorem drop_cons {α : Type} {l : List α} {k : Nat} {x : α} (hx : l[k]? = some x) : l.drop k = x :: l.drop (k + 1) := by
 obtain ⟨h1, h2⟩ := List.getElem?_eq_some_iff.1 hx
 rw [List.drop_eq_getElem_cons h1, h2]
set_option maxHeartbeats 1000000 in
theorem call_ok {W : Wd} {G : Gh} {h : AH} {p : Nat} {W' : Wd} (R : Rep W G h) (hp : p < W.n) (he : W.call p = some W') :
   Arm.Calls Try.prog 36 [ptr (G.B .wd), nv (p : Int)] h (fun r => r.1 = nv ((W.pr p).inb.length : Int) ∧ Nxt W' G h r.2) := by
 unfold Wd.call at he
 split at he
 rotate_right
 · cases he
 rename_i hbig
 have hbig : (W.pr p).inb.length < 1000000000 := hbig
 obtain ⟨cs, g0, ls⟩ := R.inb hp
 refine Calls_W 43 Try.f36 ?_
 have T0 : Sm Nix h h := .refl
 refine W_sg 1 kr (L_nil (W_sg 3 kr (L_ld _ rfl rfl kr ((R.ext T0).wdL.ld (o := 1) kr rfl) (L_g 1 kr ?_))))
 obtain ⟨b1, o1, i1, l1⟩ := (R.ext T0).prsAt (P := Try.prog) (T := 74) (el := 77) kr kr kr hp
 refine L_ix _ rfl rfl kr kr (i1) (L_ld _ rfl rfl kr (l1) (L_g 2 kr (L_ld _ rfl rfl kr (((R.ext T0).prL hp).ld (o := 3) kr rfl) (L_g 1 kr (L_nil (W_sg 3 kr (L_ld _ rfl rfl kr ((R.ext T0).wdL.ld (o := 1) kr rfl) (L_g 1 kr ?_))))))))
 obtain ⟨b1, o1, i1, l1⟩ := (R.ext T0).prsAt (P := Try.prog) (T := 74) (el := 77) kr kr kr hp
 refine L_ix _ rfl rfl kr kr (i1) (L_ld _ rfl rfl kr (l1) (L_g 2 kr ?_))
 obtain ⟨h95, e95, d95, t95, n95⟩ := ((R.ext T0).prL hp).store (P := Try.prog) (T := 81) (o := 3) (v := .slice none 0 0) kr rfl rfl (by simp [prC])
 have hpe : ∀ b, vb (G.S (.inb p)) = some b → ¬ b = G.B (.pr p) := fun b hb e => R.op.ne (r := .inb p) (r' := .pr p) (by obtain ⟨cs, e, _⟩ := (R.rel.pr p hp).inb; rw [e]; simp) (by rw [(R.rel.pr p hp).pr]; simp) (by simp) (vb_vbx hb) (by rw [e]; rfl)
 obtain ⟨S0, C0, ro0, ⟨R0, Y0⟩, nm0⟩ := (R.ext T0).nilInb hp d95 t95
 have hs0 := (g0.sd.ext T0).sm t95 hpe
 have X0 := (Gx.of T0).trans Y0
 have ls0 := ls.mono (fun _ _ z => z.mono (Gx.dr X0 R.op))
 refine L_st _ rfl rfl rfl kr kr (e95) ?_
 have T95 : Sm Nix h95 h95 := .refl
 refine L_nil (W_seq (W_sg 1 kr (L_ln _ rfl rfl kr (hs0.len (T := 81) (el := 101) kr) (L_g 1 kr (L_nil (W_block ?_))))))
 refine W_loop (fun mm fr hh => ∃ (k : Nat) (Wk : Wd) (Sk : Ro → Value) (Ck : Ro → Th) (rk : Nat → Prop), mm = (W.pr p).inb.length - k ∧ k ≤ (W.pr p).inb.length ∧ Wd.handles p Wk ((W.pr p).inb.drop k) = some W' ∧ Wk.n = W.n ∧ Rep Wk (⟨G.B, Sk, Ck, rk⟩ : Gh) hh ∧ Gx G h (⟨G.B, Sk, Ck, rk⟩ : Gh) hh ∧ Sd hh 2 (G.S (.inb p)) (W.pr p).inb.length cs ∧ (∀ b, vb (G.S (.inb p)) = some b → ¬ Gh.mut (⟨G.B, Sk, Ck, rk⟩ : Gh) b ∧ ¬ rk b) ∧ Ls (RAr hh rk) 2 (W.pr p).inb cs ∧
    fr 0 = ptr (G.B .wd) ∧ fr 1 = nv (p : Int) ∧ fr 5 = G.S (.inb p) ∧ fr 27 = G.S (.inb p) ∧ fr 28 = nv ((W.pr p).inb.length : Int) ∧ fr 29 = nv (k : Int)) ((W.pr p).inb.length) ?_ ?_
 ·
   exact ⟨0, W.setPr p { W.pr p with inb := [] }, S0, C0, ro0, rfl, Nat.zero_le _, by rw [List.drop_zero]; exact he, rfl, R0, X0, hs0, nm0, ls0, kr, kr, kr, kr, kr, kr⟩
 clear hs0 nm0 ls0 R0 X0
 rintro mm fr hh ⟨k, Wk, Sk, Ck, rk, hm, hk, hst, hn, Rk, Xk, hs, hb9, ls, y0, y1, y5, y27, y28, y29⟩
 refine W_set (k := 0) y0 (W_set (k := 1) y1 (W_set (k := 5) y5 (W_set (k := 27) y27 (W_set (k := 28) y28 (W_set (k := 29) y29 ?_)))))
 have TK : Sm Nix hh hh := .refl
 have NK := Xk.sm.nx
 refine W_sg 1 kr (L_nil (W_seq ?_))
 refine W_cond (decide ((k : Int) < ((W.pr p).inb.length : Nat))) kr (fun hb => ?_) (fun hb => ?_)
 ·
   have hlt : k < (W.pr p).inb.length := by simp at hb; omega
   obtain ⟨x, hx⟩ : ∃ x, (W.pr p).inb[k]? = some x := ⟨_, List.getElem?_eq_getElem hlt⟩
   rw [drop_cons hx] at hst
   obtain ⟨W1, hst, hst2⟩ := Wd.handles_cons hst
   have hn1 : W1.n = W.n := (Wd.handle_n hst).trans hn
   obtain ⟨c, ⟨pv, hpv, rfl⟩, hcl, hcc⟩ := ls.get hx
   obtain ⟨f, pk⟩ := x
   dsimp only at hpv hst hcc
   obtain ⟨b9, o9, _, i9, l9⟩ := hs.at (P := Try.prog) (T := 81) (el := 101) kr kr hlt .i64
   have hp' : p < Wk.n := by rw [hn]; exact hp
   have hl9 : ∀ j, j < 2 → hh.cell ⟨b9, o9 + j, none⟩ = [nv f, pv][j]? := fun j hj => (l9 j hj).trans (hcc j hj)
   refine W_skip (W_seq (W_block (W_seq ?_)))
   rcases pk with ⟨e, d⟩ | ⟨e, q⟩ | _ | q | ⟨q, d⟩ | ⟨q, i, d⟩
   ·
    obtain ⟨dv, hd, rfl⟩ := hpv
    obtain ⟨da, dc, rfl⟩ := hd.1.form
    have he1 : Wk.came p (.eager e d) = some W1 := hst
    refine W_region (L_ix _ rfl rfl kr kr (i9) (L_ld _ rfl rfl kr (ld_l (l := [nv f, .iface Tys.e (.agg ⟨[nv e.src, nv e.ctx, nv e.tag, nv e.size, nv e.parts, .slice da (List.map bv d).length dc]⟩)]) kr (fun j hj => hl9 j hj)) ?_))
    have m96 : ¬ (Gh.mut (⟨G.B, Sk, Ck, rk⟩ : Gh)) hh.next ∧ ¬ (Gh.ro (⟨G.B, Sk, Ck, rk⟩ : Gh)) hh.next := ⟨(Rk.ext TK).op.new (Nat.le_refl _), (Rk.ext TK).op.newr (Nat.le_refl _)⟩
    refine L_nwc [nv 0, .nilIface] .ptr rfl rfl kr fun h96 c96 t96 n96 => ?_
    have T96 := TK.ext t96
    have N96 := T96.nx
    obtain ⟨h97, e97, d97, t97, n97⟩ := c96.sA 101 [nv f, .iface Tys.e (.agg ⟨[nv e.src, nv e.ctx, nv e.tag, nv e.size, nv e.parts, .slice da (List.map bv d).length dc]⟩)]
    replace c96 := d97
    have T97 := T96.tr t97
    have N97 := T97.nx
    refine L_st _ rfl rfl rfl kr kr (e97) (L_nil (W_rg 1 kr (L_ld _ rfl rfl kr (c96.ld (o := 1) kr rfl) (L_g 3 kr (L_ld _ rfl rfl kr (c96.ld (o := 0) kr rfl) (L_c rfl rfl kr (heager_ok (f := f) (Rk.ext T97) hp' (Dr.ext hd T97) he1) ?_))))))
    rintro v98 h98 N98
    dsimp only at N98
    obtain ⟨S98, C98, ro98, R98, Y98⟩ := N98
    have X98 := ((Xk).trans (Gx.of T97)).trans Y98
    have m96_98 : ¬ (Gh.mut ⟨Gh.B (⟨G.B, Sk, Ck, rk⟩ : Gh), S98, C98, ro98⟩) (hh.next) ∧ ¬ (Gh.ro ⟨Gh.B (⟨G.B, Sk, Ck, rk⟩ : Gh), S98, C98, ro98⟩) (hh.next) := ⟨fun hm => (Y98.mu _ hm).elim m96.1 (fun e => by have := c96.lt; omega), fun hm => (Y98.ron _ hm).elim m96.2 (fun e => by have := c96.lt; omega)⟩
    have T98 : Sm (Ow h (⟨Gh.B (⟨G.B, Sk, Ck, rk⟩ : Gh), S98, C98, ro98⟩ : Gh)) h98 h98 := .refl
    have hc9 := hs.ext T97
    have hs9 := hc9.sm Y98.sm (fun b hb => (hb9 b hb).1)
    have nm9 : ∀ b, vb (G.S (.inb p)) = some b → ¬ (Gh.mut ⟨G.B, S98, C98, ro98⟩) b ∧ ¬ ro98 b := fun b hb => ⟨fun hm => (Y98.mu b hm).elim (hb9 b hb).1 (fun e => by have := hc9.lt hb; omega), fun hm => (Y98.ron b hm).elim (hb9 b hb).2 (fun e => by have := hc9.lt hb; omega)⟩
    have ls9 := ls.mono (fun _ _ z => z.mono (Gx.dr ((Gx.of T97).trans Y98) Rk.op))
    refine L_nil (W_region (L_i ((k : Int)) (1) (nv ((k + 1 : Nat) : Int)) rfl rfl kr kr rfl (inc_ok (by omega)) (L_g 1 kr (L_nil ?_))))
    exact ⟨(W.pr p).inb.length - (k + 1), by omega, k + 1, _, _, _, _, rfl, by omega, hst2, hn1, (R98.ow T98), ((X98).ow T98), hs9, nm9, ls9, kr, kr, kr, kr, kr, kr⟩
   ·
    obtain rfl := hpv
    have he1 : Wk.came p (.ask e q) = some W1 := hst
    refine W_region (L_ix _ rfl rfl kr kr (i9) (L_ld _ rfl rfl kr (ld_l (l := [nv f, .iface Tys.a (.agg ⟨[nv e.src, nv e.ctx, nv e.tag, nv e.size, nv e.parts, nv q]⟩)]) kr (fun j hj => hl9 j hj)) ?_))
    have m99 : ¬ (Gh.mut (⟨G.B, Sk, Ck, rk⟩ : Gh)) hh.next ∧ ¬ (Gh.ro (⟨G.B, Sk, Ck, rk⟩ : Gh)) hh.next := ⟨(Rk.ext TK).op.new (Nat.le_refl _), (Rk.ext TK).op.newr (Nat.le_refl _)⟩
    refine L_nwc [nv 0, .nilIface] .ptr rfl rfl kr fun h99 c99 t99 n99 => ?_
    have T99 := TK.ext t99
    have N99 := T99.nx
    obtain ⟨h100, e100, d100, t100, n100⟩ := c99.sA 101 [nv f, .iface Tys.a (.agg ⟨[nv e.src, nv e.ctx, nv e.tag, nv e.size, nv e.parts, nv q]⟩)]
    replace c99 := d100
    have T100 := T99.tr t100
    have N100 := T100.nx
    refine L_st _ rfl rfl rfl kr kr (e100) (L_nil (W_rg 1 kr (L_ld _ rfl rfl kr (c99.ld (o := 1) kr rfl) (L_g 3 kr (L_ld _ rfl rfl kr (c99.ld (o := 0) kr rfl) (L_c rfl rfl kr (hask_ok (f := f) (Rk.ext T100) hp' he1) ?_))))))
    rintro v101 h101 N101
    dsimp only at N101
    obtain ⟨S101, C101, ro101, R101, Y101⟩ := N101
    have X101 := ((Xk).trans (Gx.of T100)).trans Y101
    have m99_101 : ¬ (Gh.mut ⟨Gh.B (⟨G.B, Sk, Ck, rk⟩ : Gh), S101, C101, ro101⟩) (hh.next) ∧ ¬ (Gh.ro ⟨Gh.B (⟨G.B, Sk, Ck, rk⟩ : Gh), S101, C101, ro101⟩) (hh.next) := ⟨fun hm => (Y101.mu _ hm).elim m99.1 (fun e => by have := c99.lt; omega), fun hm => (Y101.ron _ hm).elim m99.2 (fun e => by have := c99.lt; omega)⟩
    have T101 : Sm (Ow h (⟨Gh.B (⟨G.B, Sk, Ck, rk⟩ : Gh), S101, C101, ro101⟩ : Gh)) h101 h101 := .refl
    have hc9 := hs.ext T100
    have hs9 := hc9.sm Y101.sm (fun b hb => (hb9 b hb).1)
    have nm9 : ∀ b, vb (G.S (.inb p)) = some b → ¬ (Gh.mut ⟨G.B, S101, C101, ro101⟩) b ∧ ¬ ro101 b := fun b hb => ⟨fun hm => (Y101.mu b hm).elim (hb9 b hb).1 (fun e => by have := hc9.lt hb; omega), fun hm => (Y101.ron b hm).elim (hb9 b hb).2 (fun e => by have := hc9.lt hb; omega)⟩
    have ls9 := ls.mono (fun _ _ z => z.mono (Gx.dr ((Gx.of T100).trans Y101) Rk.op))
    refine L_nil (W_region (L_i ((k : Int)) (1) (nv ((k + 1 : Nat) : Int)) rfl rfl kr kr rfl (inc_ok (by omega)) (L_g 1 kr (L_nil ?_))))
    exact ⟨(W.pr p).inb.length - (k + 1), by omega, k + 1, _, _, _, _, rfl, by omega, hst2, hn1, (R101.ow T101), ((X101).ow T101), hs9, nm9, ls9, kr, kr, kr, kr, kr, kr⟩
   ·
    obtain rfl := hpv
    unfold Wd.handle at hst
    dsimp only at hst
    split at hst
    rotate_right
    · cases hst
    rename_i hcr
    obtain rfl := Option.some.inj hst
    obtain ⟨i, rfl⟩ : ∃ i : Nat, f = (i : Int) := ⟨f.toNat, by omega⟩
    simp only [Int.toNat_natCast] at hst2 hcr ⊢
    refine W_region (L_ix _ rfl rfl kr kr (i9) (L_ld _ rfl rfl kr (ld_l (l := [nv (i : Int), .iface Tys.c (.agg ⟨[]⟩)]) kr (fun j hj => hl9 j hj)) ?_))
    have m102 : ¬ (Gh.mut (⟨G.B, Sk, Ck, rk⟩ : Gh)) hh.next ∧ ¬ (Gh.ro (⟨G.B, Sk, Ck, rk⟩ : Gh)) hh.next := ⟨(Rk.ext TK).op.new (Nat.le_refl _), (Rk.ext TK).op.newr (Nat.le_refl _)⟩
    refine L_nwc [nv 0, .nilIface] .ptr rfl rfl kr fun h102 c102 t102 n102 => ?_
    have T102 := TK.ext t102
    have N102 := T102.nx
    obtain ⟨h103, e103, d103, t103, n103⟩ := c102.sA 101 [nv (i : Int), .iface Tys.c (.agg ⟨[]⟩)]
    replace c102 := d103
    have T103 := T102.tr t103
    have N103 := T103.nx
    refine L_st _ rfl rfl rfl kr kr (e103) (L_nil (W_rg 1 kr (L_ld _ rfl rfl kr (c102.ld (o := 1) kr rfl) (L_g 3 kr (L_ld _ rfl rfl kr (c102.ld (o := 0) kr rfl) (L_c rfl rfl kr (hcredit_ok (i := i) (Rk.ext T103) hp' (by omega) hcr.2.2.1 (Int.lt_of_lt_of_le (by decide) hcr.2.2.2)) ?_))))))
    rintro v104 h104 N104
    dsimp only at N104
    obtain ⟨S104, C104, ro104, R104, Y104⟩ := N104
    have X104 := ((Xk).trans (Gx.of T103)).trans Y104
    have m102_104 : ¬ (Gh.mut ⟨Gh.B (⟨G.B, Sk, Ck, rk⟩ : Gh), S104, C104, ro104⟩) (hh.next) ∧ ¬ (Gh.ro ⟨Gh.B (⟨G.B, Sk, Ck, rk⟩ : Gh), S104, C104, ro104⟩) (hh.next) := ⟨fun hm => (Y104.mu _ hm).elim m102.1 (fun e => by have := c102.lt; omega), fun hm => (Y104.ron _ hm).elim m102.2 (fun e => by have := c102.lt; omega)⟩
    have T104 : Sm (Ow h (⟨Gh.B (⟨G.B, Sk, Ck, rk⟩ : Gh), S104, C104, ro104⟩ : Gh)) h104 h104 := .refl
    have hc9 := hs.ext T103
    have hs9 := hc9.sm Y104.sm (fun b hb => (hb9 b hb).1)
    have nm9 : ∀ b, vb (G.S (.inb p)) = some b → ¬ (Gh.mut ⟨G.B, S104, C104, ro104⟩) b ∧ ¬ ro104 b := fun b hb => ⟨fun hm => (Y104.mu b hm).elim (hb9 b hb).1 (fun e => by have := hc9.lt hb; omega), fun hm => (Y104.ron b hm).elim (hb9 b hb).2 (fun e => by have := hc9.lt hb; omega)⟩
    have ls9 := ls.mono (fun _ _ z => z.mono (Gx.dr ((Gx.of T103).trans Y104) Rk.op))
    refine L_nil (W_region (L_i ((k : Int)) (1) (nv ((k + 1 : Nat) : Int)) rfl rfl kr kr rfl (inc_ok (by omega)) (L_g 1 kr (L_nil ?_))))
    exact ⟨(W.pr p).inb.length - (k + 1), by omega, k + 1, _, _, _, _, rfl, by omega, hst2, hn1, (R104.ow T104), ((X104).ow T104), hs9, nm9, ls9, kr, kr, kr, kr, kr, kr⟩
   ·
    obtain rfl := hpv
    refine W_region (L_ix _ rfl rfl kr kr (i9) (L_ld _ rfl rfl kr (ld_l (l := [nv f, .iface Tys.l (.agg ⟨[nv q]⟩)]) kr (fun j hj => hl9 j hj)) ?_))
    have m105 : ¬ (Gh.mut (⟨G.B, Sk, Ck, rk⟩ : Gh)) hh.next ∧ ¬ (Gh.ro (⟨G.B, Sk, Ck, rk⟩ : Gh)) hh.next := ⟨(Rk.ext TK).op.new (Nat.le_refl _), (Rk.ext TK).op.newr (Nat.le_refl _)⟩
    refine L_nwc [nv 0, .nilIface] .ptr rfl rfl kr fun h105 c105 t105 n105 => ?_
    have T105 := TK.ext t105
    have N105 := T105.nx
    obtain ⟨h106, e106, d106, t106, n106⟩ := c105.sA 101 [nv f, .iface Tys.l (.agg ⟨[nv q]⟩)]
    replace c105 := d106
    have T106 := T105.tr t106
    have N106 := T106.nx
    refine L_st _ rfl rfl rfl kr kr (e106) (L_nil (W_rg 1 kr (L_ld _ rfl rfl kr (c105.ld (o := 1) kr rfl) (L_g 3 kr (L_ld _ rfl rfl kr (c105.ld (o := 0) kr rfl) (L_c rfl rfl kr (hclr_ok (Rk.ext T106) hp' hst) ?_))))))
    rintro v107 h107 N107
    dsimp only at N107
    obtain ⟨S107, C107, ro107, R107, Y107⟩ := N107
    have X107 := ((Xk).trans (Gx.of T106)).trans Y107
    have m105_107 : ¬ (Gh.mut ⟨Gh.B (⟨G.B, Sk, Ck, rk⟩ : Gh), S107, C107, ro107⟩) (hh.next) ∧ ¬ (Gh.ro ⟨Gh.B (⟨G.B, Sk, Ck, rk⟩ : Gh), S107, C107, ro107⟩) (hh.next) := ⟨fun hm => (Y107.mu _ hm).elim m105.1 (fun e => by have := c105.lt; omega), fun hm => (Y107.ron _ hm).elim m105.2 (fun e => by have := c105.lt; omega)⟩
    have T107 : Sm (Ow h (⟨Gh.B (⟨G.B, Sk, Ck, rk⟩ : Gh), S107, C107, ro107⟩ : Gh)) h107 h107 := .refl
    have hc9 := hs.ext T106
    have hs9 := hc9.sm Y107.sm (fun b hb => (hb9 b hb).1)
    have nm9 : ∀ b, vb (G.S (.inb p)) = some b → ¬ (Gh.mut ⟨G.B, S107, C107, ro107⟩) b ∧ ¬ ro107 b := fun b hb => ⟨fun hm => (Y107.mu b hm).elim (hb9 b hb).1 (fun e => by have := hc9.lt hb; omega), fun hm => (Y107.ron b hm).elim (hb9 b hb).2 (fun e => by have := hc9.lt hb; omega)⟩
    have ls9 := ls.mono (fun _ _ z => z.mono (Gx.dr ((Gx.of T106).trans Y107) Rk.op))
    refine L_nil (W_region (L_i ((k : Int)) (1) (nv ((k + 1 : Nat) : Int)) rfl rfl kr kr rfl (inc_ok (by omega)) (L_g 1 kr (L_nil ?_))))
    exact ⟨(W.pr p).inb.length - (k + 1), by omega, k + 1, _, _, _, _, rfl, by omega, hst2, hn1, (R107.ow T107), ((X107).ow T107), hs9, nm9, ls9, kr, kr, kr, kr, kr, kr⟩
   ·
    obtain ⟨dv, hd, rfl⟩ := hpv
    obtain ⟨da, dc, rfl⟩ := hd.1.form
    unfold Wd.handle at hst
    dsimp only at hst
    split at hst
    rotate_right
    · cases hst
    rename_i no hkx
    split at hst
    rotate_right
    · cases hst
    rename_i hcr
    obtain rfl := Option.some.inj hst
    refine W_region (L_ix _ rfl rfl kr kr (i9) (L_ld _ rfl rfl kr (ld_l (l := [nv f, .iface Tys.b (.agg ⟨[nv q, .slice da (List.map bv d).length dc]⟩)]) kr (fun j hj => hl9 j hj)) ?_))
    have m108 : ¬ (Gh.mut (⟨G.B, Sk, Ck, rk⟩ : Gh)) hh.next ∧ ¬ (Gh.ro (⟨G.B, Sk, Ck, rk⟩ : Gh)) hh.next := ⟨(Rk.ext TK).op.new (Nat.le_refl _), (Rk.ext TK).op.newr (Nat.le_refl _)⟩
    refine L_nwc [nv 0, .nilIface] .ptr rfl rfl kr fun h108 c108 t108 n108 => ?_
    have T108 := TK.ext t108
    have N108 := T108.nx
    obtain ⟨h109, e109, d109, t109, n109⟩ := c108.sA 101 [nv f, .iface Tys.b (.agg ⟨[nv q, .slice da (List.map bv d).length dc]⟩)]
    replace c108 := d109
    have T109 := T108.tr t109
    have N109 := T109.nx
    refine L_st _ rfl rfl rfl kr kr (e109) (L_nil (W_rg 1 kr (L_ld _ rfl rfl kr (c108.ld (o := 1) kr rfl) (L_g 3 kr (L_ld _ rfl rfl kr (c108.ld (o := 0) kr rfl) (L_c rfl rfl kr (hbody_ok (Rk.ext T109) hp' hkx (Dr.ext hd T109) hcr.1 hcr.2) ?_))))))
    rintro v110 h110 N110
    dsimp only at N110
    obtain ⟨S110, C110, ro110, R110, Y110⟩ := N110
    have X110 := ((Xk).trans (Gx.of T109)).trans Y110
    have m108_110 : ¬ (Gh.mut ⟨Gh.B (⟨G.B, Sk, Ck, rk⟩ : Gh), S110, C110, ro110⟩) (hh.next) ∧ ¬ (Gh.ro ⟨Gh.B (⟨G.B, Sk, Ck, rk⟩ : Gh), S110, C110, ro110⟩) (hh.next) := ⟨fun hm => (Y110.mu _ hm).elim m108.1 (fun e => by have := c108.lt; omega), fun hm => (Y110.ron _ hm).elim m108.2 (fun e => by have := c108.lt; omega)⟩
    have T110 : Sm (Ow h (⟨Gh.B (⟨G.B, Sk, Ck, rk⟩ : Gh), S110, C110, ro110⟩ : Gh)) h110 h110 := .refl
    have hc9 := hs.ext T109
    have hs9 := hc9.sm Y110.sm (fun b hb => (hb9 b hb).1)
    have nm9 : ∀ b, vb (G.S (.inb p)) = some b → ¬ (Gh.mut ⟨G.B, S110, C110, ro110⟩) b ∧ ¬ ro110 b := fun b hb => ⟨fun hm => (Y110.mu b hm).elim (hb9 b hb).1 (fun e => by have := hc9.lt hb; omega), fun hm => (Y110.ron b hm).elim (hb9 b hb).2 (fun e => by have := hc9.lt hb; omega)⟩
    have ls9 := ls.mono (fun _ _ z => z.mono (Gx.dr ((Gx.of T109).trans Y110) Rk.op))
    refine L_nil (W_region (L_i ((k : Int)) (1) (nv ((k + 1 : Nat) : Int)) rfl rfl kr kr rfl (inc_ok (by omega)) (L_g 1 kr (L_nil ?_))))
    exact ⟨(W.pr p).inb.length - (k + 1), by omega, k + 1, _, _, _, _, rfl, by omega, hst2, hn1, (R110.ow T110), ((X110).ow T110), hs9, nm9, ls9, kr, kr, kr, kr, kr, kr⟩
   ·
    obtain ⟨dv, hd, ⟨ad, nd, cd, rfl⟩, rfl⟩ := hpv
    refine W_region (L_ix _ rfl rfl kr kr (i9) (L_ld _ rfl rfl kr (ld_l (l := [nv f, .iface Tys.p (.agg ⟨[nv q, nv i, .slice (some ad) nd cd]⟩)]) kr (fun j hj => hl9 j hj)) ?_))
    have m111 : ¬ (Gh.mut (⟨G.B, Sk, Ck, rk⟩ : Gh)) hh.next ∧ ¬ (Gh.ro (⟨G.B, Sk, Ck, rk⟩ : Gh)) hh.next := ⟨(Rk.ext TK).op.new (Nat.le_refl _), (Rk.ext TK).op.newr (Nat.le_refl _)⟩
    refine L_nwc [nv 0, .nilIface] .ptr rfl rfl kr fun h111 c111 t111 n111 => ?_
    have T111 := TK.ext t111
    have N111 := T111.nx
    obtain ⟨h112, e112, d112, t112, n112⟩ := c111.sA 101 [nv f, .iface Tys.p (.agg ⟨[nv q, nv i, .slice (some ad) nd cd]⟩)]
    replace c111 := d112
    have T112 := T111.tr t112
    have N112 := T112.nx
    refine L_st _ rfl rfl rfl kr kr (e112) (L_nil (W_rg 1 kr (L_ld _ rfl rfl kr (c111.ld (o := 1) kr rfl) (L_g 3 kr (L_ld _ rfl rfl kr (c111.ld (o := 0) kr rfl) (L_c rfl rfl kr (hpart_ok (Rk.ext T112) hp' (Dr.ext hd T112) hst) ?_))))))
    rintro v113 h113 N113
    dsimp only at N113
    obtain ⟨S113, C113, ro113, R113, Y113⟩ := N113
    have X113 := ((Xk).trans (Gx.of T112)).trans Y113
    have m111_113 : ¬ (Gh.mut ⟨Gh.B (⟨G.B, Sk, Ck, rk⟩ : Gh), S113, C113, ro113⟩) (hh.next) ∧ ¬ (Gh.ro ⟨Gh.B (⟨G.B, Sk, Ck, rk⟩ : Gh), S113, C113, ro113⟩) (hh.next) := ⟨fun hm => (Y113.mu _ hm).elim m111.1 (fun e => by have := c111.lt; omega), fun hm => (Y113.ron _ hm).elim m111.2 (fun e => by have := c111.lt; omega)⟩
    have T113 : Sm (Ow h (⟨Gh.B (⟨G.B, Sk, Ck, rk⟩ : Gh), S113, C113, ro113⟩ : Gh)) h113 h113 := .refl
    have hc9 := hs.ext T112
    have hs9 := hc9.sm Y113.sm (fun b hb => (hb9 b hb).1)
    have nm9 : ∀ b, vb (G.S (.inb p)) = some b → ¬ (Gh.mut ⟨G.B, S113, C113, ro113⟩) b ∧ ¬ ro113 b := fun b hb => ⟨fun hm => (Y113.mu b hm).elim (hb9 b hb).1 (fun e => by have := hc9.lt hb; omega), fun hm => (Y113.ron b hm).elim (hb9 b hb).2 (fun e => by have := hc9.lt hb; omega)⟩
    have ls9 := ls.mono (fun _ _ z => z.mono (Gx.dr ((Gx.of T112).trans Y113) Rk.op))
    refine L_nil (W_region (L_i ((k : Int)) (1) (nv ((k + 1 : Nat) : Int)) rfl rfl kr kr rfl (inc_ok (by omega)) (L_g 1 kr (L_nil ?_))))
    exact ⟨(W.pr p).inb.length - (k + 1), by omega, k + 1, _, _, _, _, rfl, by omega, hst2, hn1, (R113.ow T113), ((X113).ow T113), hs9, nm9, ls9, kr, kr, kr, kr, kr, kr⟩
 ·
   have hge : k = (W.pr p).inb.length := by simp at hb; omega
   subst hge
   rw [List.drop_length] at hst
   obtain rfl := Option.some.inj hst
   refine W_exit ?_
   repeat with_reducible refine then_exit ?_
   refine exit_here (W_sg 1 kr (L_ln _ rfl rfl kr (hs.len (T := 81) (el := 101) kr) (L_g 1 kr (L_nil (W_ret ?_)))))
   repeat first | with_reducible refine then_ret ?_ | with_reducible refine blk_ret ?_
   refine done_of (v := nv ((W.pr p).inb.length : Int)) (.inl rfl) kr ?_
   exact ⟨rfl, _, _, _, (Rk.ext TK), ((Xk).trans (Gx.of TK))⟩
end
end Go.Proofs.Ytmehemeoaplepaa
namespace Go.Proofs.Ytmehemeoaplepaa
noncomputable section
open Go Go.X Go.Arm Go.Mt
theorem kset_new {f : Nat → Value} {l : List Nat} {k : Nat} (h : k ∉ l) : kset (l.map fun (x : Nat) => ((x : Int), f x)) (k : Int) (f k) = (l ++ [k]).map fun (x : Nat) => ((x : Int), f x) := by
 induction l with
 | nil => rfl
 | cons x l ih =>
  simp only [List.map_cons, List.cons_append]
  unfold kset
  rw [if_neg (show ¬ ((x : Int) = (k : Int)) by intro e; exact h (by rw [Int.ofNat.inj e]; simp)), ih (fun h2 => h (List.mem_cons_of_mem _ h2))]
end
end Go.Proofs.Ytmehemeoaplepaa
