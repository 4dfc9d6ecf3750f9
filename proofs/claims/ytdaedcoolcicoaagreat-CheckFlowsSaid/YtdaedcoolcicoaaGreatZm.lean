/- What the functions on flows do. -/
import Derived.Test.YtdaedcoolcicoaaGreatZl
namespace Go.Proofs.YtdaedcoolcicoaaGreat
noncomputable section
open Go Go.X Go.Arm
theorem under_err {h : AH} {f sb wb : Nat} {st sv : Value} {fp : List Nat} {m : Fl} {p q : Int} (H : F0 h f sb wb st sv fp m.st m.ws) (he : chk2 m.st.length p q ≠ 0) :
    Arm.Calls Tryz.prog (48) [ptr f, .int .i64 p, .int .i64 q] h (fun r => r.1 = .tuple ⟨[.slice none 0 0, .int .i64 (chk2 m.st.length p q)]⟩ ∧ Sm Nix h r.2) := by
  refine Calls_of_W (n := 45) (fn := Tryz.f48) (by kernel_rfl) rfl rfl (Nat.le_of_ble_eq_true rfl) trivial ⟨.inr (by simp), rfl⟩ ?_
  refine W_seq ?_
  refine W_region ?_
  refine L_g 2 (by kernel_rfl) ?_
  refine L_nil ?_
  refine W_seq ?_
  refine W_seq ?_
  refine W_region ?_
  refine L_g 3 (by kernel_rfl) ?_
  refine L_nw (Al.cells [Value.int .i64 p, Value.int .i64 q]) (.sl 2 2) rfl rfl (by kernel_rfl) ?_
  have c1 : Cl (h.push (Al.cells [Value.int .i64 p, Value.int .i64 q]).obj) h.next [Value.int .i64 p, Value.int .i64 q] := Cl.new h _
  have t1 : Sm Nix h (h.push (Al.cells [Value.int .i64 p, Value.int .i64 q]).obj) := .push h _
  have n1 : (h.push (Al.cells [Value.int .i64 p, Value.int .i64 q]).obj).next = h.next + 1 := rfl
  generalize h.push (Al.cells [Value.int .i64 p, Value.int .i64 q]).obj = h1 at c1 t1 n1 ⊢
  have H1 := H.ext t1
  refine L_c rfl rfl (by kernel_rfl) (check2 (p := p) (q := q) H1 c1) ?_
  rintro v9 h9 e9
  cases e9
  refine L_g 1 (by kernel_rfl) ?_
  refine L_nil ?_
  refine W_seq ?_
  refine W_region ?_
  refine L_g 1 (by kernel_rfl) ?_
  refine L_i ((chk2 m.st.length p q)) (0) (.bool true) rfl rfl (by kernel_rfl) (by kernel_rfl) rfl (by simp [he]) ?_
  refine L_nil ?_
  refine W_cond true (by kernel_rfl) (fun _ => ?_) (fun e => by cases e)
  refine W_seq ?_
  refine W_region ?_
  refine L_g 3 (by kernel_rfl) ?_
  refine L_nil ?_
  refine W_ret ?_
  repeat first | with_reducible refine then_ret ?_ | with_reducible refine blk_ret ?_
  refine done_of (v := .tuple ⟨[.slice none 0 0, .int .i64 (chk2 m.st.length p q)]⟩) (.inl rfl) (by kernel_rfl) ?_
  exact ⟨rfl, t1⟩
/-- The numbers among things. -/
def numsOf : List Th → List Int
  | [] => []
  | .num v :: r => v :: numsOf r
  | .mark :: r => numsOf r
theorem numsOf_app : ∀ (l l' : List Th), numsOf (l ++ l') = numsOf l ++ numsOf l'
  | [], _ => rfl
  | .num v :: r, l' => by show v :: numsOf (r ++ l') = _; rw [numsOf_app r l']; rfl
  | .mark :: r, l' => numsOf_app r l'
theorem numsOf_le : ∀ l, (numsOf l).length ≤ l.length
  | [] => Nat.le_refl _
  | .num v :: r => Nat.succ_le_succ (numsOf_le r)
  | .mark :: r => Nat.le_succ_of_le (numsOf_le r)
theorem qElem {h : AH} {v : Value} {l : List Th} {i : Nat} (H : Gr h 1 v l.length (l.map th)) (hi : i < l.length) : ∃ pa x, l[i]? = some x ∧ aIndex Tryz.prog 164 v (.int .i64 i) = some (.pointer (some pa)) ∧ aLoad Tryz.prog 186 pa h = some (th x) := by
  obtain ⟨pa, x, e1, e2, e3, _, _⟩ := H.elem (P := Tryz.prog) u128 s132 (by kernel_rfl) hi .i64
  rw [List.getElem?_map, List.getElem?_eq_getElem hi] at e2
  cases e2
  exact ⟨pa, _, List.getElem?_eq_getElem hi, e1, e3⟩
set_option maxHeartbeats 2000000 in
theorem under_ok {h : AH} {f sb wb : Nat} {st sv : Value} {fp : List Nat} {m : Fl} {p q K : Nat} (H : F0 h f sb wb st sv fp m.st m.ws) (hp : p < m.st.length) (hq : q < m.st.length) (hne : p ≠ q) (hle : m.le K) (hK : K < 400000000) :
    Arm.Calls Tryz.prog (48) [ptr f, .int .i64 p, .int .i64 q] h (fun r => ∃ u, r.1 = .tuple ⟨[u, .int .i64 0]⟩ ∧ Gr r.2 1 u (numsOf (m.q ((p : Int), (q : Int)))).length ((numsOf (m.q ((p : Int), (q : Int)))).map iv) ∧ Sm Nix h r.2) := by
  refine Calls_of_W (n := 45) (fn := Tryz.f48) (by kernel_rfl) rfl rfl (Nat.le_of_ble_eq_true rfl) trivial ⟨.inr (by simp), rfl⟩ ?_
  refine W_seq ?_
  refine W_region ?_
  refine L_g 2 (by kernel_rfl) ?_
  refine L_nil ?_
  refine W_seq ?_
  refine W_seq ?_
  refine W_region ?_
  refine L_g 3 (by kernel_rfl) ?_
  refine L_nw (Al.cells [Value.int .i64 (p : Int), Value.int .i64 (q : Int)]) (.sl 2 2) rfl rfl (by kernel_rfl) ?_
  have c1 : Cl (h.push (Al.cells [Value.int .i64 (p : Int), Value.int .i64 (q : Int)]).obj) h.next [Value.int .i64 (p : Int), Value.int .i64 (q : Int)] := Cl.new h _
  have t1 : Sm Nix h (h.push (Al.cells [Value.int .i64 (p : Int), Value.int .i64 (q : Int)]).obj) := .push h _
  have n1 : (h.push (Al.cells [Value.int .i64 (p : Int), Value.int .i64 (q : Int)]).obj).next = h.next + 1 := rfl
  generalize h.push (Al.cells [Value.int .i64 (p : Int), Value.int .i64 (q : Int)]).obj = h1 at c1 t1 n1 ⊢
  have H1 := H.ext t1
  refine L_c rfl rfl (by kernel_rfl) (check2 (p := (p : Int)) (q := (q : Int)) H1 c1) ?_
  rintro v9 h9 e9
  cases e9
  rw [chk2_ok hp hq hne]
  refine L_g 1 (by kernel_rfl) ?_
  refine L_nil ?_
  refine W_seq ?_
  refine W_region ?_
  refine L_g 2 (by kernel_rfl) ?_
  refine L_nil ?_
  refine W_cond false (by kernel_rfl) (fun e => by cases e) (fun _ => ?_)
  refine W_skip ?_
  refine W_seq ?_
  refine W_region ?_
  refine L_g 1 (by kernel_rfl) ?_
  refine L_nil ?_
  refine W_seq ?_
  refine W_seq ?_
  refine W_region ?_
  refine L_g 3 (by kernel_rfl) ?_
  refine L_ld _ rfl rfl (by kernel_rfl) (H1.cl.ld (o := 1) (by kernel_rfl) rfl) ?_
  refine L_g 3 (by kernel_rfl) ?_
  obtain ⟨s1, es, gs, bs⟩ := lookQ H1.mp ((p : Int), (q : Int))
  rw [show (kget m.ws ((p : Int), (q : Int))).getD [] = m.q ((p : Int), (q : Int)) from rfl] at gs
  have hqK := hle ((p : Int), (q : Int))
  generalize m.q ((p : Int), (q : Int)) = qq at gs hqK ⊢
  refine L_lk _ rfl rfl (by kernel_rfl) (by kernel_rfl) (es) ?_
  refine L_g 1 (by kernel_rfl) ?_
  refine L_ln _ rfl rfl (by kernel_rfl) (gs.lenV u128) ?_
  refine L_g 1 (by kernel_rfl) ?_
  refine L_nil ?_
  refine W_block ?_
  refine W_loop (fun i fr hh => ∃ k v9, k ≤ qq.length ∧ i = qq.length - k ∧ fr 9 = v9 ∧ fr 29 = s1 ∧ fr 30 = .int .i64 qq.length ∧ fr 31 = .int .i64 k ∧ Sm Nix h1 hh ∧
        Gr hh 1 v9 (numsOf (qq.take k)).length ((numsOf (qq.take k)).map iv) ∧ ∀ b, vb v9 = some b → h1.next ≤ b) (qq.length) ?_ ?_
  ·
    exact ⟨0, .slice none 0 0, Nat.zero_le _, rfl, by kernel_rfl, by kernel_rfl, by kernel_rfl, by kernel_rfl, .refl, Gr.nil, fun b hb => by cases hb⟩
  rintro i1 fr1 h2 ⟨k, v9, hk, hi1, y9, y29, y30, y31, t2, g2, nb2⟩
  have gs2 := gs.ext t2
  obtain ⟨av, cv, ev⟩ := g2.sd.form
  subst ev
  refine W_set (k := 9) y9 ?_
  refine W_set (k := 29) y29 ?_
  refine W_set (k := 30) y30 ?_
  refine W_set (k := 31) y31 ?_
  refine W_seq ?_
  refine W_region ?_
  refine L_g 1 (by kernel_rfl) ?_
  refine L_nil ?_
  refine W_seq ?_
  refine W_cond (decide ((k : Int) < (qq.length : Nat))) (by kernel_rfl) (fun hb => ?_) (fun hb => ?_)
  ·
    have hlt : k < qq.length := by simp at hb; omega
    refine W_skip ?_
    refine W_seq ?_
    refine W_block ?_
    refine W_seq ?_
    refine W_region ?_
    obtain ⟨pa, x, ex, ei, el⟩ := qElem gs2 hlt
    refine L_ix _ rfl rfl (by kernel_rfl) (by kernel_rfl) (ei) ?_
    refine L_ld _ rfl rfl (by kernel_rfl) (el) ?_
    refine L_g 1 (by kernel_rfl) ?_
    refine L_nil ?_
    refine W_seq ?_
    cases x
    ·
      rename_i v
      refine W_region ?_
      refine L_g 1 (by kernel_rfl) ?_
      refine L_nil ?_
      refine W_block ?_
      refine W_seq ?_
      refine W_region ?_
      refine L_g 3 (by kernel_rfl) ?_
      refine L_nil ?_
      refine W_cond true (by kernel_rfl) (fun _ => ?_) (fun e => by cases e)
      refine W_seq ?_
      refine W_region ?_
      refine L_g 1 (by kernel_rfl) ?_
      refine L_nil ?_
      refine W_region ?_
      refine L_g 2 (by kernel_rfl) ?_
      refine L_nw (.cells [Value.int .i64 v]) (.sl 1 1) rfl rfl (by kernel_rfl) ?_
      have t3 : Sm Nix h2 (h2.push (Al.cells [Value.int .i64 v]).obj) := .push h2 _
      have c3 : Cl (h2.push (Al.cells [Value.int .i64 v]).obj) h2.next [Value.int .i64 v] := Cl.new h2 _
      generalize h2.push (Al.cells [Value.int .i64 v]).obj = h3 at t3 c3 ⊢
      have hln := numsOf_le (qq.take k)
      rw [List.length_take] at hln
      obtain ⟨v', h4, e4, g4, t4, nb4⟩ := (g2.ext t3).append (P := Tryz.prog) (sT := 64) (xT := 64) (el := 2) (by_ := 8) (z := .int .i64 0) (m := 1) (ds := [Value.int .i64 v]) (by kernel_rfl) (by kernel_rfl) (by kernel_rfl) (by kernel_rfl) (by kernel_rfl) (by kernel_rfl) (by decide) (c3.sd rfl) (fun x hx => by cases List.mem_singleton.1 hx; rfl) (by omega)
      refine L_bi v' h4 rfl rfl (by kernel_rfl) (vs := [Value.slice av (numsOf (qq.take k)).length cv, Value.slice (some ⟨h2.next, 0, none⟩) 1 1]) (by kernel_rfl) (bi_append e4) ?_
      refine L_g 1 (by kernel_rfl) ?_
      refine L_nil ?_
      refine W_region ?_
      refine L_i ((k : Int)) (1) (.int .i64 ((k + 1 : Nat) : Int)) rfl rfl (by kernel_rfl) (by kernel_rfl) rfl (inc_ok (by omega)) ?_
      refine L_g 1 (by kernel_rfl) ?_
      refine L_nil ?_
      have hT : numsOf (qq.take (k + 1)) = numsOf (qq.take k) ++ [v] := by
        rw [List.take_succ_eq_append_getElem hlt, numsOf_app]
        have : qq[k] = .num v := by rw [List.getElem?_eq_getElem hlt] at ex; exact Option.some.inj ex
        rw [this]; rfl
      refine ⟨qq.length - (k + 1), by omega, k + 1, v', by omega, rfl, by kernel_rfl, by kernel_rfl, by kernel_rfl, by kernel_rfl, (t2.ext t3).trans t4 (fun b hb => .inr (nb2 b hb)), ?_, fun b hb => ?_⟩
      · rw [hT]; simpa [iv] using g4
      · rcases nb4 b hb with hb | hb
        · exact nb2 b hb
        · have := t2.nx; have := t3.nx; omega
    ·
      refine W_region ?_
      refine L_g 1 (by kernel_rfl) ?_
      refine L_nil ?_
      refine W_block ?_
      refine W_seq ?_
      refine W_region ?_
      refine L_g 3 (by kernel_rfl) ?_
      refine L_nil ?_
      refine W_cond false (by kernel_rfl) (fun e => by cases e) (fun _ => ?_)
      refine W_skip ?_
      refine W_region ?_
      refine L_i ((k : Int)) (1) (.int .i64 ((k + 1 : Nat) : Int)) rfl rfl (by kernel_rfl) (by kernel_rfl) rfl (inc_ok (by omega)) ?_
      refine L_g 1 (by kernel_rfl) ?_
      refine L_nil ?_
      have hT : numsOf (qq.take (k + 1)) = numsOf (qq.take k) := by
        rw [List.take_succ_eq_append_getElem hlt, numsOf_app]
        have : qq[k] = .mark := by rw [List.getElem?_eq_getElem hlt] at ex; exact Option.some.inj ex
        rw [this]; simp [numsOf]
      refine ⟨qq.length - (k + 1), by omega, k + 1, _, by omega, rfl, by kernel_rfl, by kernel_rfl, by kernel_rfl, by kernel_rfl, t2, ?_, nb2⟩
      rw [hT]; exact g2
  ·
    have hge : k = qq.length := by simp at hb; omega
    refine W_exit ?_
    repeat with_reducible refine then_exit ?_
    refine exit_here ?_
    refine W_seq ?_
    refine W_region ?_
    refine L_g 3 (by kernel_rfl) ?_
    refine L_nil ?_
    refine W_ret ?_
    repeat first | with_reducible refine then_ret ?_ | with_reducible refine blk_ret ?_
    refine done_of (v := .tuple ⟨[.slice av (numsOf (qq.take k)).length cv, .int .i64 0]⟩) (.inl rfl) (by kernel_rfl) ?_
    subst hge
    refine ⟨_, rfl, ?_, t1.ext t2⟩
    rw [List.take_length] at g2 ⊢
    exact g2
end
end Go.Proofs.YtdaedcoolcicoaaGreat
