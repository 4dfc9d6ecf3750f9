/- Worlds of the program and walks of its functions. -/
import Derived.Test.YtmehemeoaplepaaZp
import Derived.Test.YtmehemeoaplepaaZn
import Derived.Test.YtmehemeoaplepaaZj
import Derived.Test.YtmehemeoaplepaaRows
import Derived.Test.YtmehemeoaplepaaChecked
import Derived.WalkKit
import Derived.ProofKit
import Derived.OpenShut
import Derived.Deep.Slices
import Derived.Carry
namespace Go.Proofs.Ytmehemeoaplepaa
noncomputable section
open Go Go.X Go.Arm Go.Mt
theorem bi_copy {P : Program} {T U : TypeId} {d s v : Value} {h h' : AH} (e : aCopy P T d s h = some (v, h')) : aBuiltin P .copy [T, U] [d, s] h = some [(.val v, h')] := by
 show ovh (aCopy P T d s h) = _
 rw [e]; rfl
theorem add_nat {a b : Nat} (h : a + b < 1000000000) : Value.int .i64 (IntKind.i64.wrap ((a : Int) + (b : Int))) = nv ((a + b : Nat) : Int) := by
 have : IntKind.i64.wrap ((a : Int) + (b : Int)) = ((a + b : Nat) : Int) := by rw [IntKind.wrap_i64]; omega
 rw [this]; rfl
theorem mul64_ok {h : AH} {n : Nat} (hn : n = 1 ∨ n = 2 ∨ n = 3 ∨ n = 4 ∨ n = 5 ∨ n = 6 ∨ n = 7 ∨ n = 8) :
  Arm.Calls Try.prog 60 [.int .u64 1, .int .u64 (n : Int)] h (fun r => r.1 = .tuple ⟨[.int .u64 0, .int .u64 (n : Int)]⟩ ∧ Sm Nix h r.2) := by
 rcases hn with rfl | rfl | rfl | rfl | rfl | rfl | rfl | rfl
 all_goals
  refine Calls_of_W (n := 51) (fn := Try.f60) kr rfl rfl (Nat.le_of_ble_eq_true rfl) trivial ⟨.inr (by simp), rfl⟩ ?_
  have T0 : Sm Nix h h := .refl
  refine W_seq ?_
  refine W_region ?_
  refine L_g 2 kr ?_
  refine L_nil ?_
  refine W_seq ?_
  refine W_region ?_
  refine L_g 3 kr ?_
  refine L_nil ?_
  refine W_seq ?_
  refine W_region ?_
  refine L_g 3 kr ?_
  refine L_nil ?_
  refine W_seq ?_
  refine W_region ?_
  refine L_g 3 kr ?_
  refine L_nil ?_
  refine W_seq ?_
  refine W_region ?_
  refine L_g 3 kr ?_
  refine L_nil ?_
  refine W_seq ?_
  refine W_region ?_
  refine L_g 4 kr ?_
  refine L_nil ?_
  refine W_seq ?_
  refine W_region ?_
  refine L_g 7 kr ?_
  refine L_nil ?_
  refine W_seq ?_
  refine W_region ?_
  refine L_g 3 kr ?_
  refine L_nil ?_
  refine W_seq ?_
  refine W_region ?_
  refine L_g 3 kr ?_
  refine L_nil ?_
  refine W_seq ?_
  refine W_region ?_
  refine L_g 6 kr ?_
  refine L_nil ?_
  refine W_seq ?_
  refine W_region ?_
  refine L_g 9 kr ?_
  refine L_nil ?_
  refine W_seq ?_
  refine W_region ?_
  refine L_g 4 kr ?_
  refine L_nil ?_
  refine W_ret ?_
  repeat first | with_reducible refine then_ret ?_ | with_reducible refine blk_ret ?_
  first
   | (refine done_of (v := .tuple ⟨[.int .u64 0, .int .u64 ((1 : Nat) : Int)]⟩) (.inl rfl) kr ?_; exact ⟨rfl, T0⟩)
   | (refine done_of (v := .tuple ⟨[.int .u64 0, .int .u64 ((2 : Nat) : Int)]⟩) (.inl rfl) kr ?_; exact ⟨rfl, T0⟩)
   | (refine done_of (v := .tuple ⟨[.int .u64 0, .int .u64 ((3 : Nat) : Int)]⟩) (.inl rfl) kr ?_; exact ⟨rfl, T0⟩)
   | (refine done_of (v := .tuple ⟨[.int .u64 0, .int .u64 ((4 : Nat) : Int)]⟩) (.inl rfl) kr ?_; exact ⟨rfl, T0⟩)
   | (refine done_of (v := .tuple ⟨[.int .u64 0, .int .u64 ((5 : Nat) : Int)]⟩) (.inl rfl) kr ?_; exact ⟨rfl, T0⟩)
   | (refine done_of (v := .tuple ⟨[.int .u64 0, .int .u64 ((6 : Nat) : Int)]⟩) (.inl rfl) kr ?_; exact ⟨rfl, T0⟩)
   | (refine done_of (v := .tuple ⟨[.int .u64 0, .int .u64 ((7 : Nat) : Int)]⟩) (.inl rfl) kr ?_; exact ⟨rfl, T0⟩)
   | (refine done_of (v := .tuple ⟨[.int .u64 0, .int .u64 ((8 : Nat) : Int)]⟩) (.inl rfl) kr ?_; exact ⟨rfl, T0⟩)
theorem mul_ok {h : AH} {n : Nat} (hn : n = 1 ∨ n = 2 ∨ n = 3 ∨ n = 4 ∨ n = 5 ∨ n = 6 ∨ n = 7 ∨ n = 8) :
  Arm.Calls Try.prog 50 [.int .u64 1, .int .u64 (n : Int)] h (fun r => r.1 = .tuple ⟨[.int .u64 0, .int .u64 (n : Int)]⟩ ∧ Sm Nix h r.2) := by
 refine Calls_of_W (n := 30) (fn := Try.f50) kr rfl rfl (Nat.le_of_ble_eq_true rfl) trivial ⟨.inr (by simp), rfl⟩ ?_
 have T0 : Sm Nix h h := .refl
 refine W_seq ?_
 refine W_region ?_
 refine L_g 2 kr ?_
 refine L_nil ?_
 refine W_seq ?_
 refine W_cond false kr (fun e => by cases e) (fun _ => ?_)
 refine W_skip ?_
 refine W_seq ?_
 refine W_region ?_
 refine L_g 2 kr ?_
 refine L_c rfl rfl kr (mul64_ok hn) ?_
 rintro v280 h280 ⟨e280, t280⟩
 try dsimp only at e280
 try dsimp only at t280
 subst e280
 have T280 : Sm Nix h h280 := T0.ext t280
 have N280 := T280.nx
 have M280 := t280.nx
 refine L_g 5 kr ?_
 refine L_nil ?_
 refine W_seq ?_
 refine W_region ?_
 refine L_g 4 kr ?_
 refine L_nil ?_
 refine W_ret ?_
 repeat first | with_reducible refine then_ret ?_ | with_reducible refine blk_ret ?_
 refine done_of (v := .tuple ⟨[.int .u64 0, .int .u64 (n : Int)]⟩) (.inl rfl) kr ?_
 exact ⟨rfl, T280⟩
theorem repeat_ok {h : AH} {n b0 : Nat} {c : Int} (hc0 : Arm.Cl h b0 [nv c]) (hn : n = 1 ∨ n = 2 ∨ n = 3 ∨ n = 4 ∨ n = 5 ∨ n = 6 ∨ n = 7 ∨ n = 8) :
  Arm.Calls Try.prog 29 [.slice (some ⟨b0, 0, none⟩) 1 1, nv (n : Int)] h (fun r => ∃ bb, h.next ≤ bb ∧ Arm.Cl r.2 bb (List.replicate n (nv c)) ∧ r.1 = .slice (some ⟨bb, 0, none⟩) n n ∧ Sm Nix h r.2) := by
 have hn0 : 0 < n := by omega
 have hn9 : n < 9 := by omega
 have hop : n < open_ := Nat.lt_trans hn9 (by decide)
 have hbl := hc0.lt
 refine Calls_of_W (n := 48) (fn := Try.f29) kr rfl rfl (Nat.le_of_ble_eq_true rfl) trivial ⟨.inr (by simp), rfl⟩ ?_
 have T0 : Sm Nix h h := .refl
 refine W_seq ?_
 refine W_region ?_
 refine L_g 1 kr ?_
 refine L_nil ?_
 refine W_seq ?_
 refine W_seq ?_
 refine W_region ?_
 refine L_g 1 kr ?_
 refine L_i ((n : Int)) (0) (.bool false) rfl rfl kr kr rfl (by first | (simp; done) | (simp; omega)) ?_
 refine L_nil ?_
 refine W_cond false kr (fun e => by cases e) (fun _ => ?_)
 refine W_skip ?_
 refine W_seq ?_
 refine W_region ?_
 refine L_g 4 kr ?_
 refine L_p (.int .u64 (n : Int)) rfl (by rcases hn with rfl | rfl | rfl | rfl | rfl | rfl | rfl | rfl <;> kernel_rfl) ?_
 refine L_c rfl rfl kr (mul_ok hn) ?_
 rintro v281 h281 ⟨e281, t281⟩
 try dsimp only at e281
 try dsimp only at t281
 subst e281
 have T281 : Sm Nix h h281 := T0.ext t281
 have N281 := T281.nx
 have M281 := t281.nx
 refine L_g 5 kr ?_
 refine L_nil ?_
 refine W_seq ?_
 refine W_seq ?_
 refine W_region ?_
 refine L_g 4 kr ?_
 refine L_want kr ?_
 refine L_p (.bool false) rfl (by rcases hn with rfl | rfl | rfl | rfl | rfl | rfl | rfl | rfl <;> kernel_rfl) ?_
 refine L_g 1 kr ?_
 refine L_nil ?_
 refine W_cond false kr (fun e => by cases e) (fun _ => ?_)
 refine W_skip ?_
 refine W_seq ?_
 refine W_region ?_
 refine L_g 1 kr ?_
 refine L_p (nv (n : Int)) rfl (by rcases hn with rfl | rfl | rfl | rfl | rfl | rfl | rfl | rfl <;> kernel_rfl) ?_
 refine L_nw (Al.cells (zrep n [nv 0])) (.sl n n) rfl rfl (ev_mkK (P := Try.prog) (k := 1) (el := 3) (z := nv 0) (by_ := 8) kr kr kr kr rfl (by omega) kr kr) ?_
 have c282 : Cl (h281.push (Al.cells (zrep n [nv 0])).obj) h281.next (zrep n [nv 0]) := Cl.new h281 _
 have t282 : Sm Nix h281 (h281.push (Al.cells (zrep n [nv 0])).obj) := .push h281 _
 have n282 : (h281.push (Al.cells (zrep n [nv 0])).obj).next = h281.next + 1 := rfl
 generalize h281.push (Al.cells (zrep n [nv 0])).obj = h282 at c282 t282 n282 ⊢
 have T282 : Sm Nix h h282 := T281.ext t282
 have N282 := T282.nx
 rw [zrep_row] at c282
 have hN30 : h.next ≤ h281.next := T281.nx
 refine L_g 1 kr ?_
 refine L_nil ?_
 refine W_seq ?_
 refine W_region ?_
 refine L_g 2 kr ?_
 obtain ⟨h283, e283, d283, t283, n283⟩ := copy_row (P := Try.prog) (T := 29) (el := 3) (x := nv c) (y := nv 0) (k := 0) (o := 0) (m := 1) (s := 1) (u := .slice (some ⟨b0, 0, none⟩) 1 1) kr kr c282 (Nat.zero_le _) rfl rfl (by rw [Nat.min_eq_left (by omega)]; exact ((hc0.ext T282).sd (n := 1) rfl).first) (by omega) (Nat.le_refl _) hn0 (by decide) (by omega) (by omega : n ≠ 0)
 refine L_bi (nv (1 : Nat)) h283 rfl rfl kr (vs := [.slice (some ⟨h281.next, 0, none⟩) n n, .slice (some ⟨b0, 0, none⟩) 1 1]) kr (bi_copy e283) ?_
 replace c282 := c282.lt
 have T283 : Sm Nix h h283 := T282.trans t283 (fun x hx => .inr (by have hx : x = _ := hx; omega))
 have N283 := T283.nx
 refine L_g 1 kr ?_
 refine L_nil ?_
 refine W_seq ?_
 refine W_block ?_
 refine W_loop (fun mm fr hh => ∃ k : Nat, mm = n - k ∧ 1 ≤ k ∧ k ≤ n ∧ Arm.Cl hh h281.next (row2 (nv c) (nv 0) k n) ∧ Sm Nix h hh ∧ fr 7 = .slice (some ⟨h281.next, 0, none⟩) n n ∧ fr 8 = nv (k : Int)) (n - 1) ?_ ?_
 ·
  exact ⟨1, rfl, Nat.le_refl _, hn0, d283, T283, kr, kr⟩
 rintro mm fr hh ⟨k, hm, hk1, hkn, hcr, TL, y7, y8⟩
 refine W_set (k := 7) y7 ?_
 refine W_set (k := 8) y8 ?_
 refine W_seq ?_
 refine W_seq ?_
 refine W_region ?_
 refine L_g 3 kr ?_
 refine L_i ((k : Int)) ((n : Int)) (.bool (decide ((k : Int) < (n : Int)))) rfl rfl kr kr rfl (rfl) ?_
 refine L_nil ?_
 refine W_cond (decide ((k : Int) < (n : Int))) kr (fun hb => ?_) (fun hb => ?_)
 ·
  have hlt : k < n := by simp at hb; omega
  refine W_skip ?_
  refine W_block ?_
  refine W_drawn kr ?_
  refine D_e (e := 7) (l := [0, 1, 2, 3, 4, 5, 6]) (s' := [0]) kr kr rfl kr Rk_nil ?_
  refine NS_b 3 kr ?_
  refine NS_sl _ rfl rfl kr kr kr kr kr kr (slk_lo (b := h281.next) (P := Try.prog) (T := 29) (el := 3) kr kr hlt hop) ?_
  refine NS_b 2 kr ?_
  refine NS_sl _ rfl rfl kr kr kr kr kr kr (slk_hi (b := h281.next) (P := Try.prog) (T := 29) (el := 3) kr kr hkn hn0 hop) ?_
  refine NS_nil ?_
  obtain ⟨h284, e284, hcq, t284, n284⟩ := copy_row (P := Try.prog) (T := 29) (el := 3) (x := nv c) (y := nv 0) (k := k) (o := k) (m := min k (n - k)) (s := k) (u := .slice (some ⟨h281.next, 0, none⟩) k n) kr kr hcr hkn rfl rfl (first_row hcr hkn (Nat.min_le_left _ _) (by omega)) rfl (Nat.le_refl _) hlt hk1 (by omega) (by omega : n - k ≠ 0)
  have TQ : Sm Nix h h284 := TL.trans t284 (fun x hx => .inr (by have hx : x = _ := hx; omega))
  refine L_bi (nv ((min k (n - k) : Nat) : Int)) h284 rfl rfl kr (vs := [.slice (some ⟨h281.next, k, none⟩) (n - k) (n - k), .slice (some ⟨h281.next, 0, none⟩) k n]) kr (bi_copy e284) ?_
  have T284 : Sm Nix h h284 := TQ
  have N284 := T284.nx
  refine L_nil ⟨rfl, ?_⟩
  refine D_l (l := [8, 9]) kr kr (Rk_noRead kr) ?_
  refine NS_i ((k : Int)) (((min k (n - k) : Nat) : Int)) (nv ((k + min k (n - k) : Nat) : Int)) rfl rfl kr kr kr kr rfl (add_nat (by omega)) ?_
  refine NS_b 1 kr ?_
  refine NS_nil ?_
  exact ⟨n - (k + min k (n - k)), by omega, k + min k (n - k), rfl, by omega, by omega, hcq, TQ, kr, kr⟩
 ·
  have hge : k = n := by simp at hb; omega
  subst hge
  refine W_exit ?_
  repeat with_reducible refine then_exit ?_
  refine exit_here ?_
  refine W_seq ?_
  refine W_region ?_
  refine L_g 2 kr ?_
  refine L_nil ?_
  refine W_ret ?_
  repeat first | with_reducible refine then_ret ?_ | with_reducible refine blk_ret ?_
  refine done_of (v := .slice (some ⟨h281.next, 0, none⟩) k k) (.inl rfl) kr ?_
  exact ⟨_, hN30, by have := hcr; unfold row2 at this; rw [Nat.sub_self, List.replicate_zero, List.append_nil] at this; exact this, rfl, TL⟩
end
end Go.Proofs.Ytmehemeoaplepaa
namespace Go.Arm
noncomputable section
open Go Go.X Go.Mt
section
variable {G : Gh} {h h' : AH} {S : Nat → Prop} {r : Ro} {b : Nat} {v : Value} {x : Th}
theorem Op.putO (O : Op G h) (r : Ro) (b : Nat) (v : Value) (x : Th) (s : Sm S h h') (hS : ∀ c, S c → (G.C r ≠ .no ∧ vbx (G.V r) = some c) ∨ h.next ≤ c)
   (A : At h' ((G.put r b v x).V r) x) (hv : ∀ c, vbx ((G.put r b v x).V r) = some c → (G.C r ≠ .no ∧ vbx (G.V r) = some c) ∨ (¬ G.mut c ∧ ¬ G.ro c)) :
   Op (G.put r b v x) h' ∧ ∀ c, (G.put r b v x).mut c → G.mut c ∨ vbx ((G.put r b v x).V r) = some c := by
 have hmu : ∀ c, (G.put r b v x).mut c → G.mut c ∨ vbx ((G.put r b v x).V r) = some c := by
   rintro c ⟨r', h3, h4⟩
   by_cases e : r' = r
   · subst e; exact .inr h4
   · rw [C_put e] at h3; rw [V_put e] at h4; exact .inl ⟨r', h3, h4⟩
 have hother : ∀ r', r' ≠ r → ∀ c, G.C r' ≠ .no → vbx (G.V r') = some c → ¬ S c := fun r' hr c hc hb hs => by
   rcases hS c hs with ⟨e1, e2⟩ | e
   · exact hr (O.inj _ _ _ hc e1 hb e2)
   · exact O.new e ⟨r', hc, hb⟩
 refine ⟨⟨fun r' => ?_, fun r' r'' c h3 h4 h5 h6 => ?_, fun c hc hr => ?_, fun c hc => Nat.lt_of_lt_of_le (O.rolt c hc) s.nx⟩, hmu⟩
 · by_cases e : r' = r
   · subst e; rw [C_at]; exact A
   · rw [V_put e, C_put e]
     by_cases e2 : G.C r' = .no
     · rw [e2]; trivial
     · exact (O.here r').sm s (fun c hb => hother r' e c e2 hb)
 · by_cases e : r' = r
   · by_cases e2 : r'' = r
     · rw [e, e2]
     · subst e
       rw [C_put e2] at h4; rw [V_put e2] at h6
       rcases hv c h5 with q | q
       · exact O.inj _ _ _ q.1 h4 q.2 h6
       · exact (q.1 ⟨_, h4, h6⟩).elim
   · rw [C_put e] at h3; rw [V_put e] at h5
     by_cases e2 : r'' = r
     · subst e2
       rcases hv c h6 with q | q
       · exact O.inj _ _ _ h3 q.1 h5 q.2
       · exact (q.1 ⟨_, h3, h5⟩).elim
     · rw [C_put e2] at h4; rw [V_put e2] at h6
       exact O.inj _ _ _ h3 h4 h5 h6
 · rcases hmu c hc with q | q
   · exact O.ro c q hr
   · rcases hv c q with k | k
     · exact O.ro c ⟨r, k.1, k.2⟩ hr
     · exact k.2 hr
theorem Op.oS (O : Op G h) (r : Ro) (v : Value) (x : Th) (hV : ∀ G : Gh, G.V r = G.S r) (s : Sm S h h') (hS : ∀ c, S c → (G.C r ≠ .no ∧ vbx (G.S r) = some c) ∨ h.next ≤ c) (A : At h' v x) (hv : ∀ c, vbx v = some c → (G.C r ≠ .no ∧ vbx (G.S r) = some c) ∨ (¬ G.mut c ∧ ¬ G.ro c)) :
  Op (G.putS r v x) h' ∧ ∀ c, (G.putS r v x).mut c → G.mut c ∨ vbx v = some c := by
 have e : (G.putS r v x).V r = v := by rw [hV]; exact ups_at _ _ _
 have := O.putO r (G.B r) v x s (fun c hc => by rw [hV]; exact hS c hc) (by rw [put_S, e]; exact A) (fun c hc => by rw [put_S, e] at hc; rw [hV]; exact hv c hc)
 rw [put_S, e] at this
 exact this
theorem Op.oB (O : Op G h) (r : Ro) (b : Nat) (x : Th) (hV : vbx ((G.putB r b x).V r) = some b) (A : At h ((G.putB r b x).V r) x) (hv : ¬ G.mut b ∧ ¬ G.ro b) :
  Op (G.putB r b x) h ∧ ∀ c, (G.putB r b x).mut c → G.mut c ∨ c = b := by
 have := O.putO (S := Nix) (h' := h) r b (G.S r) x .refl (fun c hc => hc.elim) (by rw [put_B]; exact A) (fun c hc => by rw [put_B, hV] at hc; cases hc; exact .inr hv)
 rw [put_B] at this
 exact ⟨this.1, fun c hc => (this.2 c hc).imp id fun e => by rw [hV] at e; cases e; rfl⟩
end
def pr0 (n : Nat) (c : Int) : Pr := ⟨1, [], [], [], [], [], List.replicate n c⟩
def rq0 : Rq := ⟨0, 0, 0, 0, 0, false, false, false, false, false, 0, 0, [], [], 0, [], false, St.z⟩
def Wd.new (n : Nat) (e c : Int) : Wd := ⟨e, n, fun _ => pr0 n c, fun _ _ => rq0, fun _ _ => []⟩
variable [Tys]
structure NewI (h0 h : AH) (G : Gh) (k n : Nat) (e c : Int) : Prop where
 op : Op G h
 mu : ∀ b, G.mut b → h0.next ≤ b
 ro : ∀ b, ¬ G.ro b
 wd : G.C .wd = .cl [nv e, G.S .prs, .map (some (G.B .ways))]
 prs : G.C .prs = .gr 1 k ((List.range k).map fun p => ptr (G.B (.pr p)))
 ways : G.C .ways = .mp []
 way : ∀ a b, G.C (.way a b) = .gr 1 0 [] ∧ G.S (.way a b) = nilS
 pr : ∀ p, p < k → RelP (pr0 n c) (fun _ => rq0) G h p
 non : ∀ p no, G.C (.rq p no) = .no
 no : ∀ r p, r.of = some p → k ≤ p → G.C r = .no
section
variable {G : Gh} {h0 h h' h1 h2 : AH} {k n : Nat} {e c : Int}
theorem NewI.ext (N : NewI h0 h G k n e c) (s : Sm Nix h h') : NewI h0 h' G k n e c :=
 ⟨N.op.ext s, N.mu, N.ro, N.wd, N.prs, N.ways, N.way, fun p hp => (N.pr p hp).mono rfl rfl rfl (N.op.dr s.of), N.non, N.no⟩
theorem NewI.rep (N : NewI h0 h G n n e c) : ∃ G', Rep (Wd.new n e c) G' h ∧ G'.B = G.B ∧ ∀ b, G'.mut b ∨ G'.ro b → h0.next ≤ b := by
 have hg := N.op.here .prs
 rw [N.prs] at hg
 obtain ⟨O, M⟩ := N.op.oS .prs (G.S .prs) (.sd 1 n ((List.range n).map fun p => ptr (G.B (.pr p)))) (fun _ => rfl) (Sm.refl (S := Nix)) (fun c hc => hc.elim) (Gr.sd hg) (fun c hc => .inl ⟨by rw [N.prs]; simp, hc⟩)
 refine ⟨_, ⟨O, ?_⟩, rfl, fun b hb => ?_⟩
 · refine ⟨?_, ups_at G.C Ro.prs (.sd 1 n ((List.range n).map fun p => ptr (G.B (.pr p)))), ⟨[], N.ways, by simp, fun a b => ?_⟩, fun a b => ⟨[], (N.way a b).1, .nil⟩, fun p hp => ?_⟩
   · show G.C .wd = .cl [nv e, ups G.S .prs (G.S .prs) .prs, _]
     rw [ups_at]; exact N.wd
   · exact (N.way a b).2.symm
   · refine (N.pr p hp).congr (fun r hr => ⟨?_, ?_, rfl⟩) rfl
     · exact ups_ne _ _ (by intro h; rw [h] at hr; cases hr)
     · exact ups_ne _ _ (by intro h; rw [h] at hr; cases hr)
 · rcases hb with hb | hb
   · rcases M b hb with q | q
     · exact N.mu b q
     · exact N.mu b ⟨.prs, by rw [N.prs]; simp, q⟩
   · exact (N.ro b hb).elim
theorem NewI.start {bw bm : Nat} {e c : Int} (cw : Cl h bw [nv e, .slice none 0 0, .map (some bm)]) (mm : Mp h bm k2 Eq ([] : List ((Int × Int) × Value))) (mb : Mb h bm) (hw : h0.next ≤ bw) (hm : h0.next ≤ bm) (hne : bw ≠ bm) :
   ∃ G, NewI h0 h G 0 n e c ∧ G.B .wd = bw := by
 refine ⟨⟨fun r => if r = .wd then bw else bm, fun _ => nilS, fun r => match r with | .wd => .cl [nv e, nilS, .map (some bm)] | .prs => .gr 1 0 [] | .ways => .mp [] | .way _ _ => .gr 1 0 [] | _ => .no, fun _ => False⟩, ?_, rfl⟩
 have hval : ∀ r b, (match r with | .wd => Th.cl [nv e, nilS, .map (some bm)] | .prs => .gr 1 0 [] | .ways => .mp [] | .way _ _ => .gr 1 0 [] | _ => .no) ≠ .no →
     vbx (Gh.V ⟨fun r => if r = .wd then bw else bm, fun _ => nilS, fun r => match r with | .wd => .cl [nv e, nilS, .map (some bm)] | .prs => .gr 1 0 [] | .ways => .mp [] | .way _ _ => .gr 1 0 [] | _ => .no, fun _ => False⟩ r) = some b → (r = .wd ∧ b = bw) ∨ (r = .ways ∧ b = bm) := by
   intro r b h1 h2
   cases r with
   | wd => cases h2; exact .inl ⟨rfl, rfl⟩
   | ways => cases h2; exact .inr ⟨rfl, rfl⟩
   | prs => cases h2
   | way a b => cases h2
   | _ => exact (h1 rfl).elim
 refine ⟨⟨fun r => ?_, fun r r' b h1 h2 h3 h4 => ?_, fun b hb => id, fun b hb => hb.elim⟩, fun b hb => ?_, fun b hb => hb, rfl, rfl, rfl, fun _ _ => ⟨rfl, rfl⟩, fun p hp => by omega, fun _ _ => rfl, fun r p hr _ => ?_⟩
 · cases r with
   | wd => exact ⟨bw, rfl, cw⟩
   | ways => exact ⟨bm, rfl, mm, mb⟩
   | prs => exact Gr.nil
   | way a b => exact Gr.nil
   | _ => trivial
 · rcases hval r b h1 h3 with ⟨rfl, rfl⟩ | ⟨rfl, rfl⟩ <;> rcases hval r' _ h2 h4 with ⟨rfl, e2⟩ | ⟨rfl, e2⟩
   · rfl
   · exact (hne e2).elim
   · exact (hne e2.symm).elim
   · rfl
 · obtain ⟨r, h1, h2⟩ := hb
   rcases hval r b h1 h2 with ⟨_, rfl⟩ | ⟨_, rfl⟩
   · exact hw
   · exact hm
 · cases r <;> first | rfl | cases hr
theorem NewI.step (N : NewI h0 h G k n e c) {bR bE bP bC : Nat} {hs : AH} (t0 : Sm Nix h hs) (hR : h.next ≤ bR) (hRE : bR < bE) (hEC : bE < bC) (hCP : bC < bP) (h00 : h0.next ≤ h.next)
   (mR : Mp hs bR nv Eq ([] : List (Int × Value))) (bRb : Mb hs bR) (mE : Mp hs bE k2 Eq ([] : List ((Int × Int) × Value))) (bEb : Mb hs bE) (cC : Cl hs bC ((List.replicate n c).map nv))
   (cP : Cl hs bP [nk 1, .map (some bR), .map (some bE), nilS, nilS, nilS, .slice (some ⟨bC, 0, none⟩) n n]) {v' : Value} {S : Nat → Prop}
   (g : Gr h1 1 v' (k + 1) ((List.range k).map (fun p => ptr (G.B (.pr p))) ++ [ptr bP])) (t1 : Sm S hs h1) (hS : ∀ b, S b → vb (G.S .prs) = some b ∨ hs.next ≤ b) (hv' : ∀ b, vb v' = some b → vb (G.S .prs) = some b ∨ hs.next ≤ b)
   (cw : Cl h2 (G.B .wd) [nv e, v', .map (some (G.B .ways))]) (t2 : Sm (fun b => b = G.B .wd) h1 h2) : ∃ G', NewI h0 h2 G' (k + 1) n e c ∧ G'.B .wd = G.B .wd := by
 have Ns := N.ext t0
 have hnew : ∀ b, h.next ≤ b → ¬ G.mut b := fun b hb hm => by have := N.op.lt hm; omega
 obtain ⟨O1, M1⟩ := Ns.op.oB (.rqs k) bR (.mi []) (by show vbx (.map (some (ups _ _ _ _))) = _; rw [ups_at]; rfl) ⟨bR, by show Value.map (some (ups _ _ _ _)) = _; rw [ups_at], mR, bRb⟩ ⟨hnew _ hR, N.ro _⟩
 obtain ⟨O2, M2⟩ := O1.oB (.exs k) bE (.mp []) (by show vbx (.map (some (ups _ _ _ _))) = _; rw [ups_at]; rfl) ⟨bE, by show Value.map (some (ups _ _ _ _)) = _; rw [ups_at], mE, bEb⟩ ⟨fun hm => (M1 _ hm).elim (hnew bE (by omega)) (fun e => by omega), N.ro _⟩
 obtain ⟨O3, M3⟩ := O2.oS (.crd k) (.slice (some ⟨bC, 0, none⟩) n n) (.ws n ((List.replicate n c).map nv)) (fun _ => rfl) (Sm.refl (S := Nix)) (fun c hc => hc.elim) (cC.ws (by simp)) (fun d hd => by
   have ed : bC = d := Option.some.inj hd
   exact .inr ⟨fun hm => (M2 _ hm).elim (fun q => (M1 _ q).elim (hnew d (by omega)) (fun e => by omega)) (fun e => by omega), N.ro _⟩)
 obtain ⟨O4, M4⟩ := O3.oS (.inb k) nilS (.gr 2 0 []) (fun _ => rfl) (Sm.refl (S := Nix)) (fun c hc => hc.elim) Gr.nil (fun d hd => by cases hd)
 obtain ⟨O5, M5⟩ := O4.oS (.msg k) nilS (.gr 6 0 []) (fun _ => rfl) (Sm.refl (S := Nix)) (fun c hc => hc.elim) Gr.nil (fun d hd => by cases hd)
 obtain ⟨O6, M6⟩ := O5.oS (.rcv k) nilS (.gr 1 0 []) (fun _ => rfl) (Sm.refl (S := Nix)) (fun c hc => hc.elim) Gr.nil (fun d hd => by cases hd)
 have m6 : ∀ b, Gh.mut _ b → G.mut b ∨ b = bR ∨ b = bE ∨ b = bC := fun b hm => by
   rcases M6 b hm with q | q
   · rcases M5 b q with q | q
     · rcases M4 b q with q | q
       · rcases M3 b q with q | q
         · rcases M2 b q with q | q
           · exact (M1 b q).imp id .inl
           · exact .inr (.inr (.inl q))
         · cases q; exact .inr (.inr (.inr rfl))
       · cases q
     · cases q
   · cases q
 obtain ⟨O7, M7⟩ := O6.oB (.pr k) bP (.cl [nk 1, .map (some bR), .map (some bE), nilS, nilS, nilS, .slice (some ⟨bC, 0, none⟩) n n]) (by show vbx (ptr (ups _ _ _ _)) = _; rw [ups_at]; rfl) ⟨bP, by show ptr (ups _ _ _ _) = _; rw [ups_at], cP⟩ ⟨fun hm => (m6 _ hm).elim (hnew bP (by omega)) (fun e => by omega), N.ro _⟩
 have hC : ∀ r, r.of ≠ some k → ups (ups (ups (ups (ups (ups (ups G.C (.rqs k) (.mi [])) (.exs k) (.mp [])) (.crd k) (.ws n ((List.replicate n c).map nv))) (.inb k) (.gr 2 0 [])) (.msg k) (.gr 6 0 [])) (.rcv k) (.gr 1 0 [])) (.pr k) (.cl [nk 1, .map (some bR), .map (some bE), nilS, nilS, nilS, .slice (some ⟨bC, 0, none⟩) n n]) r = G.C r := fun r hr => by
   rw [ups_ne _ _ (of_ne rfl hr), ups_ne _ _ (of_ne rfl hr), ups_ne _ _ (of_ne rfl hr), ups_ne _ _ (of_ne rfl hr), ups_ne _ _ (of_ne rfl hr), ups_ne _ _ (of_ne rfl hr), ups_ne _ _ (of_ne rfl hr)]
 have hp0 : ups (ups (ups (ups (ups (ups (ups G.C (.rqs k) (.mi [])) (.exs k) (.mp [])) (.crd k) (.ws n ((List.replicate n c).map nv))) (.inb k) (.gr 2 0 [])) (.msg k) (.gr 6 0 [])) (.rcv k) (.gr 1 0 [])) (.pr k) (.cl [nk 1, .map (some bR), .map (some bE), nilS, nilS, nilS, .slice (some ⟨bC, 0, none⟩) n n]) .prs ≠ .no := by rw [hC .prs (by simp [Ro.of]), N.prs]; simp
 have hw0 : ups (ups (ups (ups (ups (ups (ups (ups G.C (.rqs k) (.mi [])) (.exs k) (.mp [])) (.crd k) (.ws n ((List.replicate n c).map nv))) (.inb k) (.gr 2 0 [])) (.msg k) (.gr 6 0 [])) (.rcv k) (.gr 1 0 [])) (.pr k) (.cl [nk 1, .map (some bR), .map (some bE), nilS, nilS, nilS, .slice (some ⟨bC, 0, none⟩) n n])) .prs (.gr 1 (k + 1) ((List.range k).map (fun p => ptr (G.B (.pr p))) ++ [ptr bP])) .wd ≠ .no := by rw [ups_ne _ _ (by simp), hC .wd (by simp [Ro.of]), N.wd]; simp
 obtain ⟨O8, M8⟩ := O7.oS .prs v' (.gr 1 (k + 1) ((List.range k).map (fun p => ptr (G.B (.pr p))) ++ [ptr bP])) (fun _ => rfl) t1 (fun c hc => (hS c hc).imp (fun q => ⟨hp0, vb_vbx q⟩) id) g (fun d hd => by
   have hd2 : vb v' = some d := vbx_sl (by obtain ⟨a, e, f⟩ := g.sd.form; exact ⟨a, _, e, f⟩) hd
   rcases hv' d hd2 with q | q
   · exact .inl ⟨hp0, vb_vbx q⟩
   · exact .inr ⟨O7.new q, N.ro _⟩)
 obtain ⟨O9, M9⟩ := O8.putO .wd (G.B .wd) (G.S .wd) (.cl [nv e, v', .map (some (G.B .ways))]) t2 (fun d hd => .inl ⟨hw0, by subst hd; rfl⟩) ⟨G.B .wd, congrArg ptr (ups_at (ups (ups (ups G.B (.rqs k) bR) (.exs k) bE) (.pr k) bP) Ro.wd (G.B .wd)), cw⟩
   (fun d hd => .inl ⟨hw0, by
     have hB0 : ups (ups (ups (ups G.B (.rqs k) bR) (.exs k) bE) (.pr k) bP) .wd (G.B .wd) .wd = G.B .wd := ups_at _ _ _
     have h9 : ups (ups (ups (ups G.B (.rqs k) bR) (.exs k) bE) (.pr k) bP) .wd (G.B .wd) .wd = d := Option.some.inj hd
     exact congrArg some (hB0.symm.trans h9)⟩)
 have hCC : ∀ r p, r.of = some p → p ≠ k → (ups (ups (ups (ups (ups (ups (ups (ups (ups G.C (.rqs k) (.mi [])) (.exs k) (.mp [])) (.crd k) (.ws n ((List.replicate n c).map nv))) (.inb k) (.gr 2 0 [])) (.msg k) (.gr 6 0 [])) (.rcv k) (.gr 1 0 [])) (.pr k) (.cl [nk 1, .map (some bR), .map (some bE), nilS, nilS, nilS, .slice (some ⟨bC, 0, none⟩) n n])) .prs (.gr 1 (k + 1) ((List.range k).map (fun p => ptr (G.B (.pr p))) ++ [ptr bP]))) .wd (.cl [nv e, v', .map (some (G.B .ways))])) r = G.C r := fun r p hr hp => by
   have hk : r.of ≠ some k := by rw [hr]; simpa using hp
   rw [ups_ne _ _ (by intro h; rw [h] at hr; cases hr), ups_ne _ _ (by intro h; rw [h] at hr; cases hr), hC r hk]
 have hSS : ∀ r, r.of ≠ some k → r ≠ .prs → r ≠ .wd → (ups (ups (ups (ups (ups (ups G.S (.crd k) (.slice (some ⟨bC, 0, none⟩) n n)) (.inb k) nilS) (.msg k) nilS) (.rcv k) nilS) .prs v') .wd (G.S .wd)) r = G.S r := fun r hk h1 h2 => by
   rw [ups_ne _ _ h2, ups_ne _ _ h1, ups_ne _ _ (of_ne rfl hk), ups_ne _ _ (of_ne rfl hk), ups_ne _ _ (of_ne rfl hk), ups_ne _ _ (of_ne rfl hk)]
 have hBB : ∀ r, r.of ≠ some k → (ups (ups (ups (ups G.B (.rqs k) bR) (.exs k) bE) (.pr k) bP) .wd (G.B .wd)) r = G.B r := fun r hk => by
   by_cases e : r = .wd
   · subst e; exact ups_at _ _ _
   · rw [ups_ne _ _ e, ups_ne _ _ (of_ne rfl hk), ups_ne _ _ (of_ne rfl hk), ups_ne _ _ (of_ne rfl hk)]
 have hBk : (ups (ups (ups (ups G.B (.rqs k) bR) (.exs k) bE) (.pr k) bP) .wd (G.B .wd)) (.pr k) = bP := by rw [ups_ne _ _ (by simp), ups_at]
 have hSp : (ups (ups (ups (ups (ups (ups G.S (.crd k) (.slice (some ⟨bC, 0, none⟩) n n)) (.inb k) nilS) (.msg k) nilS) (.rcv k) nilS) .prs v') .wd (G.S .wd)) .prs = v' := by rw [ups_ne _ _ (by simp), ups_at]
 refine ⟨_, ⟨O9, fun b hb => ?_, N.ro, ?_, ?_, ?_, fun a b => ?_, fun p hp => ?_, fun p no => ?_, fun r p hr hkp => ?_⟩, hBB .wd (by simp [Ro.of])⟩
 · rcases M9 b hb with q | q
   · rcases M8 b q with q | q
     · rcases M7 b q with q | q
       · rcases m6 b q with q | q
         · exact N.mu b q
         · omega
       · omega
     · rcases hv' b (vbx_sl (by obtain ⟨a, e, f⟩ := g.sd.form; exact ⟨a, _, e, f⟩) q) with q | q
       · exact N.mu b ⟨.prs, by rw [N.prs]; simp, vb_vbx q⟩
       · have := t0.nx; omega
   · have hB0 : ups (ups (ups (ups G.B (.rqs k) bR) (.exs k) bE) (.pr k) bP) .wd (G.B .wd) .wd = G.B .wd := ups_at _ _ _
     have h9 : ups (ups (ups (ups G.B (.rqs k) bR) (.exs k) bE) (.pr k) bP) .wd (G.B .wd) .wd = b := Option.some.inj q
     exact N.mu b ⟨.wd, by rw [N.wd]; simp, congrArg some (hB0.symm.trans h9)⟩
 · show (ups (ups (ups (ups (ups (ups (ups (ups (ups G.C (.rqs k) (.mi [])) (.exs k) (.mp [])) (.crd k) (.ws n ((List.replicate n c).map nv))) (.inb k) (.gr 2 0 [])) (.msg k) (.gr 6 0 [])) (.rcv k) (.gr 1 0 [])) (.pr k) (.cl [nk 1, .map (some bR), .map (some bE), nilS, nilS, nilS, .slice (some ⟨bC, 0, none⟩) n n])) .prs (.gr 1 (k + 1) ((List.range k).map (fun p => ptr (G.B (.pr p))) ++ [ptr bP]))) .wd (.cl [nv e, v', .map (some (G.B .ways))])) .wd = .cl [nv e, (ups (ups (ups (ups (ups (ups G.S (.crd k) (.slice (some ⟨bC, 0, none⟩) n n)) (.inb k) nilS) (.msg k) nilS) (.rcv k) nilS) .prs v') .wd (G.S .wd)) .prs, .map (some ((ups (ups (ups (ups G.B (.rqs k) bR) (.exs k) bE) (.pr k) bP) .wd (G.B .wd)) .ways))]
   rw [hSp, hBB .ways (by simp [Ro.of]), ups_at]
 · show (ups (ups (ups (ups (ups (ups (ups (ups (ups G.C (.rqs k) (.mi [])) (.exs k) (.mp [])) (.crd k) (.ws n ((List.replicate n c).map nv))) (.inb k) (.gr 2 0 [])) (.msg k) (.gr 6 0 [])) (.rcv k) (.gr 1 0 [])) (.pr k) (.cl [nk 1, .map (some bR), .map (some bE), nilS, nilS, nilS, .slice (some ⟨bC, 0, none⟩) n n])) .prs (.gr 1 (k + 1) ((List.range k).map (fun p => ptr (G.B (.pr p))) ++ [ptr bP]))) .wd (.cl [nv e, v', .map (some (G.B .ways))])) .prs = .gr 1 (k + 1) ((List.range (k + 1)).map fun p => ptr ((ups (ups (ups (ups G.B (.rqs k) bR) (.exs k) bE) (.pr k) bP) .wd (G.B .wd)) (.pr p)))
   rw [ups_ne _ _ (show Ro.prs ≠ Ro.wd by simp), ups_at, List.range_succ, List.map_append]
   congr 2
   · refine List.map_congr_left fun p hp => ?_
     rw [hBB (.pr p) (by have := List.mem_range.1 hp; simp [Ro.of]; omega)]
   · show [ptr bP] = [ptr ((ups (ups (ups (ups G.B (.rqs k) bR) (.exs k) bE) (.pr k) bP) .wd (G.B .wd)) (.pr k))]
     rw [hBk]
 · show (ups (ups (ups (ups (ups (ups (ups (ups (ups G.C (.rqs k) (.mi [])) (.exs k) (.mp [])) (.crd k) (.ws n ((List.replicate n c).map nv))) (.inb k) (.gr 2 0 [])) (.msg k) (.gr 6 0 [])) (.rcv k) (.gr 1 0 [])) (.pr k) (.cl [nk 1, .map (some bR), .map (some bE), nilS, nilS, nilS, .slice (some ⟨bC, 0, none⟩) n n])) .prs (.gr 1 (k + 1) ((List.range k).map (fun p => ptr (G.B (.pr p))) ++ [ptr bP]))) .wd (.cl [nv e, v', .map (some (G.B .ways))])) .ways = _
   rw [ups_ne _ _ (show Ro.ways ≠ Ro.wd by simp), ups_ne _ _ (show Ro.ways ≠ Ro.prs by simp), hC .ways (by simp [Ro.of])]; exact N.ways
 · refine ⟨?_, ?_⟩
   · show (ups (ups (ups (ups (ups (ups (ups (ups (ups G.C (.rqs k) (.mi [])) (.exs k) (.mp [])) (.crd k) (.ws n ((List.replicate n c).map nv))) (.inb k) (.gr 2 0 [])) (.msg k) (.gr 6 0 [])) (.rcv k) (.gr 1 0 [])) (.pr k) (.cl [nk 1, .map (some bR), .map (some bE), nilS, nilS, nilS, .slice (some ⟨bC, 0, none⟩) n n])) .prs (.gr 1 (k + 1) ((List.range k).map (fun p => ptr (G.B (.pr p))) ++ [ptr bP]))) .wd (.cl [nv e, v', .map (some (G.B .ways))])) (.way a b) = _
     rw [ups_ne _ _ (show Ro.way a b ≠ Ro.wd by simp), ups_ne _ _ (show Ro.way a b ≠ Ro.prs by simp), hC (.way a b) (by simp [Ro.of])]; exact (N.way a b).1
   · show (ups (ups (ups (ups (ups (ups G.S (.crd k) (.slice (some ⟨bC, 0, none⟩) n n)) (.inb k) nilS) (.msg k) nilS) (.rcv k) nilS) .prs v') .wd (G.S .wd)) (.way a b) = _
     rw [hSS (.way a b) (by simp [Ro.of]) (by simp) (by simp)]; exact (N.way a b).2
 · by_cases epk : p = k
   · rw [epk]
     have hno : ∀ no, (ups (ups (ups (ups (ups (ups (ups (ups (ups G.C (.rqs k) (.mi [])) (.exs k) (.mp [])) (.crd k) (.ws n ((List.replicate n c).map nv))) (.inb k) (.gr 2 0 [])) (.msg k) (.gr 6 0 [])) (.rcv k) (.gr 1 0 [])) (.pr k) (.cl [nk 1, .map (some bR), .map (some bE), nilS, nilS, nilS, .slice (some ⟨bC, 0, none⟩) n n])) .prs (.gr 1 (k + 1) ((List.range k).map (fun p => ptr (G.B (.pr p))) ++ [ptr bP]))) .wd (.cl [nv e, v', .map (some (G.B .ways))])) (.rq k no) = .no := fun no => by
       rw [ups_ne _ _ (by simp), ups_ne _ _ (by simp), ups_ne _ _ (by simp), ups_ne _ _ (by simp), ups_ne _ _ (by simp), ups_ne _ _ (by simp), ups_ne _ _ (by simp), ups_ne _ _ (by simp), ups_ne _ _ (by simp)]
       exact N.non k no
     refine ⟨?_, ?_, fun _ hk => (List.not_mem_nil hk).elim, ?_, fun _ hk => (List.not_mem_nil hk).elim, ⟨[], ?_, .nil⟩, ⟨[], ?_, .nil⟩, ?_, fun _ hk => (List.not_mem_nil hk).elim, ?_, fun no hn => (hn (hno no)).elim, fun no hn => (hn (hno no)).elim, fun no hn => (hn (hno no)).elim, fun no hn => (hn (hno no)).elim⟩
     · show _ = Th.cl (prC _ _ k)
       simp [prC, Gh.put, Gh.putS, Gh.putB, ups, pr0]
     · simp [Gh.put, Gh.putS, Gh.putB, ups, pr0]
     · simp [Gh.put, Gh.putS, Gh.putB, ups, pr0]
     · simp [Gh.put, Gh.putS, Gh.putB, ups, pr0]
     · simp [Gh.put, Gh.putS, Gh.putB, ups, pr0]
     · simp [Gh.put, Gh.putS, Gh.putB, ups, pr0]
     · simp [Gh.put, Gh.putS, Gh.putB, ups, pr0]
   · have P : RelP (pr0 n c) (fun _ => rq0) G h2 p := (Ns.pr p (by omega)).mono (G' := G) rfl rfl rfl (fun v d H => ⟨H.1.sm ((t1.mono (S' := fun x => S x ∨ x = G.B .wd) fun _ => .inl).then (t2.mono fun _ => .inr)) (fun b hb _ => (N.ro b (H.2 b hb)).elim), H.2⟩)
     exact P.congr (fun r hr => ⟨hCC r p hr epk, hSS r (by rw [hr]; simpa using epk) (by intro h; rw [h] at hr; cases hr) (by intro h; rw [h] at hr; cases hr), hBB r (by rw [hr]; simpa using epk)⟩) rfl
 · have h1 : (ups (ups (ups (ups (ups (ups (ups (ups (ups G.C (.rqs k) (.mi [])) (.exs k) (.mp [])) (.crd k) (.ws n ((List.replicate n c).map nv))) (.inb k) (.gr 2 0 [])) (.msg k) (.gr 6 0 [])) (.rcv k) (.gr 1 0 [])) (.pr k) (.cl [nk 1, .map (some bR), .map (some bE), nilS, nilS, nilS, .slice (some ⟨bC, 0, none⟩) n n])) .prs (.gr 1 (k + 1) ((List.range k).map (fun p => ptr (G.B (.pr p))) ++ [ptr bP]))) .wd (.cl [nv e, v', .map (some (G.B .ways))])) (.rq p no) = G.C (.rq p no) := by
     rw [ups_ne _ _ (by simp), ups_ne _ _ (by simp), ups_ne _ _ (by simp), ups_ne _ _ (by simp), ups_ne _ _ (by simp), ups_ne _ _ (by simp), ups_ne _ _ (by simp), ups_ne _ _ (by simp), ups_ne _ _ (by simp)]
   exact h1.trans (N.non p no)
 · exact (hCC r p hr (by omega)).trans (N.no r p hr (by omega))
end
end
end Go.Arm
namespace Go.Proofs.Ytmehemeoaplepaa
noncomputable section
open Go Go.X Go.Arm Go.Mt
set_option maxHeartbeats 1000000 in
theorem new_ok {h : AH} {n : Nat} {e c : Int} (hn : n = 1 ∨ n = 2 ∨ n = 3 ∨ n = 4 ∨ n = 5 ∨ n = 6 ∨ n = 7 ∨ n = 8) (he0 : 0 ≤ e) (he1 : e ≤ 4096) (hc0 : 0 ≤ c) (hc1 : c ≤ 64) :
  Arm.Calls Try.prog 9 [nv (n : Int), nv e, nv c] h (fun r => ∃ G, r.1 = .tuple ⟨[ptr (G.B .wd), nv 0]⟩ ∧ Rep (Wd.new n e c) G r.2 ∧ (∀ b, G.mut b ∨ G.ro b → h.next ≤ b) ∧ Sm Nix h r.2) := by
 have hn9 : n < 9 := by omega
 have hn0 : 0 < n := by omega
 refine Calls_of_W (n := 57) (fn := Try.f9) kr rfl rfl (Nat.le_of_ble_eq_true rfl) trivial ⟨.inr (by simp), rfl⟩ ?_
 have T0 : Sm Nix h h := .refl
 refine W_seq ?_
 refine W_region ?_
 refine L_g 2 kr ?_
 refine L_nil ?_
 refine W_seq ?_
 refine W_seq ?_
 refine W_region ?_
 refine L_g 1 kr ?_
 refine L_i ((n : Int)) (1) (.bool false) rfl rfl kr kr rfl (by first | (simp; done) | (simp; omega)) ?_
 refine L_g 2 kr ?_
 refine L_want kr ?_
 refine L_i ((n : Int)) (64) (.bool false) rfl rfl kr kr rfl (by first | (simp; done) | (simp; omega)) ?_
 refine L_g 3 kr ?_
 refine L_want kr ?_
 refine L_i (e) (0) (.bool false) rfl rfl kr kr rfl (by first | (simp; done) | (simp; omega)) ?_
 refine L_g 3 kr ?_
 refine L_want kr ?_
 refine L_i (e) (4096) (.bool false) rfl rfl kr kr rfl (by first | (simp; done) | (simp; omega)) ?_
 refine L_g 3 kr ?_
 refine L_want kr ?_
 refine L_i (c) (0) (.bool false) rfl rfl kr kr rfl (by first | (simp; done) | (simp; omega)) ?_
 refine L_g 3 kr ?_
 refine L_want kr ?_
 refine L_i (c) (64) (.bool false) rfl rfl kr kr rfl (by first | (simp; done) | (simp; omega)) ?_
 refine L_g 1 kr ?_
 refine L_nil ?_
 refine W_cond false kr (fun e => by cases e) (fun _ => ?_)
 refine W_skip ?_
 refine W_seq ?_
 refine W_region ?_
 refine L_g 1 kr ?_
 refine L_nw (Al.map) .mp rfl rfl kr ?_
 have q285 : Mb (h.push (Al.map).obj) h.next := Mb.new _
 have m285 : Mp (h.push (Al.map).obj) h.next k2 Eq ([] : List ((Int × Int) × Value)) := Mp.new h
 have t285 : Sm Nix h (h.push (Al.map).obj) := .push h _
 have n285 : (h.push (Al.map).obj).next = h.next + 1 := rfl
 generalize h.push (Al.map).obj = h285 at m285 q285 t285 n285 ⊢
 have T285 : Sm Nix h h285 := T0.ext t285
 have N285 := T285.nx
 refine L_g 1 kr ?_
 refine L_nw (Al.cells [nv e, .slice none 0 0, .map (some (h.next))]) .ptr rfl rfl kr ?_
 have c286 : Cl (h285.push (Al.cells [nv e, .slice none 0 0, .map (some (h.next))]).obj) h285.next [nv e, .slice none 0 0, .map (some (h.next))] := Cl.new h285 _
 have t286 : Sm Nix h285 (h285.push (Al.cells [nv e, .slice none 0 0, .map (some (h.next))]).obj) := .push h285 _
 have n286 : (h285.push (Al.cells [nv e, .slice none 0 0, .map (some (h.next))]).obj).next = h285.next + 1 := rfl
 generalize h285.push (Al.cells [nv e, .slice none 0 0, .map (some (h.next))]).obj = h286 at c286 t286 n286 ⊢
 replace q285 := q285.sm t286 m285.1 (fun x => x)
 replace m285 := m285.sm t286 (fun x => x) (fun _ _ e => e)
 have T286 : Sm Nix h h286 := T285.ext t286
 have N286 := T286.nx
 refine L_g 1 kr ?_
 refine L_nil ?_
 refine W_seq ?_
 refine W_seq ?_
 refine W_region ?_
 refine L_g 2 kr ?_
 refine L_nil ?_
 refine W_block ?_
 refine W_loop (fun mm fr hh => ∃ (k : Nat) (G : Gh), mm = n - k ∧ k ≤ n ∧ NewI h hh G k n e c ∧ Sm Nix h hh ∧ G.B .wd = h285.next ∧ fr 0 = nv (n : Int) ∧ fr 2 = nv c ∧ fr 8 = ptr (h285.next) ∧ fr 35 = nv (n : Int) ∧ fr 36 = nv (k : Int)) (n) ?_ ?_
 ·
  obtain ⟨G, hN, hB⟩ := NewI.start c286 m285 q285 (h0 := h) (by omega) (by omega) (by omega)
  exact ⟨0, G, rfl, Nat.zero_le _, hN, T286, hB, kr, kr, kr, kr, kr⟩
 rintro mm fr hh ⟨k, G, hm, hkn, hN, TL, hB, y0, y2, y8, y35, y36⟩
 rw [← hB] at y8
 refine W_set (k := 0) y0 ?_
 refine W_set (k := 2) y2 ?_
 refine W_set (k := 8) y8 ?_
 refine W_set (k := 35) y35 ?_
 refine W_set (k := 36) y36 ?_
 have TK : Sm Nix hh hh := .refl
 have NL := TL.nx
 have cw0 : Arm.Cl hh (G.B .wd) [nv e, G.S .prs, .map (some (G.B .ways))] := by
  have := hN.op.here .wd
  rw [hN.wd] at this
  obtain ⟨b, e1, c1⟩ := this
  cases e1; exact c1
 have g0 : Gr hh 1 (G.S .prs) k ((List.range k).map fun p => ptr (G.B (.pr p))) := by
  have := hN.op.here .prs
  rw [hN.prs] at this; exact this
 refine W_seq ?_
 refine W_region ?_
 refine L_i ((k : Int)) ((n : Int)) (.bool (decide ((k : Int) < (n : Int)))) rfl rfl kr kr rfl (rfl) ?_
 refine L_nil ?_
 refine W_seq ?_
 refine W_cond (decide ((k : Int) < (n : Int))) kr (fun hb => ?_) (fun hb => ?_)
 ·
  have hlt : k < n := by simp at hb; omega
  refine W_skip ?_
  refine W_seq ?_
  refine W_block ?_
  refine W_drawn kr ?_
  refine D_e (e := 10) (l := [0, 1, 2, 3, 4, 5, 6, 7, 8, 9]) (s' := [0, 1, 2, 3, 4, 5, 6]) kr kr rfl kr Rk_nil ?_
  refine NS_b 4 kr ?_
  refine NS_ld _ rfl rfl kr kr kr ((cw0.ext TK).ld (o := 1) kr rfl) ?_
  refine NS_newR (Al.map) .mp rfl kr rfl rfl kr (Rk_1 rfl rfl (Rk_1 rfl rfl (Rk_1 rfl rfl (Rk_1 rfl rfl (Rk_ld _ rfl rfl rfl kr ((cw0.ext (TK.ext (.push hh _))).ld (o := 1) kr rfl) kr (Rk_1 rfl rfl Rk_nil)))))) ?_
  have q287 : Mb (hh.push (Al.map).obj) hh.next := Mb.new _
  have m287 : Mp (hh.push (Al.map).obj) hh.next nv Eq ([] : List (Int × Value)) := Mp.new hh
  have t287 : Sm Nix hh (hh.push (Al.map).obj) := .push hh _
  have n287 : (hh.push (Al.map).obj).next = hh.next + 1 := rfl
  generalize hh.push (Al.map).obj = h287 at m287 q287 t287 n287 ⊢
  have T287 : Sm Nix hh h287 := TK.ext t287
  have N287 := T287.nx
  refine NS_newR (Al.map) .mp rfl kr rfl rfl kr (Rk_1 rfl rfl (Rk_1 rfl rfl (Rk_1 rfl rfl (Rk_1 rfl rfl (Rk_ld _ rfl rfl rfl kr ((cw0.ext (T287.ext (.push h287 _))).ld (o := 1) kr rfl) kr (Rk_1 rfl rfl (Rk_1 rfl rfl Rk_nil))))))) ?_
  have q288 : Mb (h287.push (Al.map).obj) h287.next := Mb.new _
  have m288 : Mp (h287.push (Al.map).obj) h287.next k2 Eq ([] : List ((Int × Int) × Value)) := Mp.new h287
  have t288 : Sm Nix h287 (h287.push (Al.map).obj) := .push h287 _
  have n288 : (h287.push (Al.map).obj).next = h287.next + 1 := rfl
  generalize h287.push (Al.map).obj = h288 at m288 q288 t288 n288 ⊢
  replace q287 := q287.sm t288 m287.1 (fun x => x)
  replace m287 := m287.sm t288 (fun x => x) (fun _ _ e => e)
  have T288 : Sm Nix hh h288 := T287.ext t288
  have N288 := T288.nx
  refine NS_b 1 kr ?_
  refine NS_newR (Al.cells [nv c]) (.sl 1 1) rfl kr rfl rfl kr (Rk_1 rfl rfl (Rk_1 rfl rfl (Rk_1 rfl rfl (Rk_1 rfl rfl (Rk_ld _ rfl rfl rfl kr ((cw0.ext (T288.ext (.push h288 _))).ld (o := 1) kr rfl) kr (Rk_1 rfl rfl (Rk_1 rfl rfl (Rk_1 rfl rfl (Rk_1 rfl rfl Rk_nil))))))))) ?_
  have c289 : Cl (h288.push (Al.cells [nv c]).obj) h288.next [nv c] := Cl.new h288 _
  have t289 : Sm Nix h288 (h288.push (Al.cells [nv c]).obj) := .push h288 _
  have n289 : (h288.push (Al.cells [nv c]).obj).next = h288.next + 1 := rfl
  generalize h288.push (Al.cells [nv c]).obj = h289 at c289 t289 n289 ⊢
  replace q287 := q287.sm t289 m287.1 (fun x => x)
  replace q288 := q288.sm t289 m288.1 (fun x => x)
  replace m287 := m287.sm t289 (fun x => x) (fun _ _ e => e)
  replace m288 := m288.sm t289 (fun x => x) (fun _ _ e => e)
  have T289 : Sm Nix hh h289 := T288.ext t289
  have N289 := T289.nx
  refine NS_b 1 kr ?_
  refine NS_nil ?_
  refine L_c rfl rfl kr (repeat_ok (c := c) c289 hn) ?_
  rintro v290 h290 ⟨bb290, hbb290, cc290, e290, t290⟩
  try dsimp only at t290
  dsimp only at cc290 e290 t290
  subst e290
  replace q287 := q287.sm t290 m287.1 (fun x => x)
  replace q288 := q288.sm t290 m288.1 (fun x => x)
  replace c289 := c289.ext t290
  replace m287 := m287.sm t290 (fun x => x) (fun _ _ e => e)
  replace m288 := m288.sm t290 (fun x => x) (fun _ _ e => e)
  have T290 : Sm Nix hh h290 := T289.ext t290
  have N290 := T290.nx
  have M290 := t290.nx
  refine L_nil ⟨rfl, ?_⟩
  refine D_e (e := 14) (l := [11, 12, 13]) (s' := [0]) kr kr rfl kr (Rk_1 rfl rfl (Rk_1 rfl rfl (Rk_1 rfl rfl (Rk_1 rfl rfl (Rk_ld _ rfl rfl rfl kr ((cw0.ext T290).ld (o := 1) kr rfl) kr (Rk_1 rfl rfl (Rk_1 rfl rfl Rk_nil))))))) ?_
  refine NS_b 1 kr ?_
  refine NS_newR (Al.cells [nv 1, .map (some (hh.next)), .map (some (h287.next)), .slice none 0 0, .slice none 0 0, .slice none 0 0, .slice (some ⟨bb290, 0, none⟩) n n]) .ptr rfl kr rfl rfl kr (Rk_1 rfl rfl (Rk_1 rfl rfl (Rk_1 rfl rfl (Rk_1 rfl rfl (Rk_ld _ rfl rfl rfl kr ((cw0.ext (T290.ext (.push h290 _))).ld (o := 1) kr rfl) kr (Rk_1 rfl rfl (Rk_1 rfl rfl (Rk_1 rfl rfl (Rk_1 rfl rfl Rk_nil))))))))) ?_
  have c291 : Cl (h290.push (Al.cells [nv 1, .map (some (hh.next)), .map (some (h287.next)), .slice none 0 0, .slice none 0 0, .slice none 0 0, .slice (some ⟨bb290, 0, none⟩) n n]).obj) h290.next [nv 1, .map (some (hh.next)), .map (some (h287.next)), .slice none 0 0, .slice none 0 0, .slice none 0 0, .slice (some ⟨bb290, 0, none⟩) n n] := Cl.new h290 _
  have t291 : Sm Nix h290 (h290.push (Al.cells [nv 1, .map (some (hh.next)), .map (some (h287.next)), .slice none 0 0, .slice none 0 0, .slice none 0 0, .slice (some ⟨bb290, 0, none⟩) n n]).obj) := .push h290 _
  have n291 : (h290.push (Al.cells [nv 1, .map (some (hh.next)), .map (some (h287.next)), .slice none 0 0, .slice none 0 0, .slice none 0 0, .slice (some ⟨bb290, 0, none⟩) n n]).obj).next = h290.next + 1 := rfl
  generalize h290.push (Al.cells [nv 1, .map (some (hh.next)), .map (some (h287.next)), .slice none 0 0, .slice none 0 0, .slice none 0 0, .slice (some ⟨bb290, 0, none⟩) n n]).obj = h291 at c291 t291 n291 ⊢
  replace q287 := q287.sm t291 m287.1 (fun x => x)
  replace q288 := q288.sm t291 m288.1 (fun x => x)
  replace c289 := c289.ext t291
  replace m287 := m287.sm t291 (fun x => x) (fun _ _ e => e)
  replace m288 := m288.sm t291 (fun x => x) (fun _ _ e => e)
  have T291 : Sm Nix hh h291 := T290.ext t291
  have N291 := T291.nx
  have ccx := cc290.ext t291
  have lbb := cc290.lt
  have ltx := t291
  refine NS_newR (Al.cells [ptr (h290.next)]) (.sl 1 1) rfl kr rfl rfl kr (Rk_1 rfl rfl (Rk_1 rfl rfl (Rk_1 rfl rfl (Rk_1 rfl rfl (Rk_ld _ rfl rfl rfl kr ((cw0.ext (T291.ext (.push h291 _))).ld (o := 1) kr rfl) kr (Rk_1 rfl rfl (Rk_1 rfl rfl (Rk_1 rfl rfl (Rk_1 rfl rfl (Rk_1 rfl rfl Rk_nil)))))))))) ?_
  have c292 : Cl (h291.push (Al.cells [ptr (h290.next)]).obj) h291.next [ptr (h290.next)] := Cl.new h291 _
  have t292 : Sm Nix h291 (h291.push (Al.cells [ptr (h290.next)]).obj) := .push h291 _
  have n292 : (h291.push (Al.cells [ptr (h290.next)]).obj).next = h291.next + 1 := rfl
  generalize h291.push (Al.cells [ptr (h290.next)]).obj = h292 at c292 t292 n292 ⊢
  replace q287 := q287.sm t292 m287.1 (fun x => x)
  replace q288 := q288.sm t292 m288.1 (fun x => x)
  replace c289 := c289.ext t292
  replace c291 := c291.ext t292
  replace m287 := m287.sm t292 (fun x => x) (fun _ _ e => e)
  replace m288 := m288.sm t292 (fun x => x) (fun _ _ e => e)
  have T292 : Sm Nix hh h292 := T291.ext t292
  have N292 := T292.nx
  have ccy := ccx.ext t292
  refine NS_nil ?_
  have l43 := m287.1
  have l44 := m288.1
  obtain ⟨v293, h293, e293, g293, t293, f293⟩ := (g0.ext T292).append (P := Try.prog) (sT := 74) (xT := 74) (el := 77) (by_ := 8) (z := .pointer none) (m := 1) (ds := [ptr (h290.next)]) kr kr kr kr kr rfl (by decide) (c292.sd rfl) (List.all_eq_true.1 rfl) (by omega)
  obtain ⟨va, vc, rfl⟩ := g293.sd.form
  have hnw : ¬ vb (G.S .prs) = some (G.B .wd) := fun e9 => hN.op.ne (r := .prs) (r' := .wd) (by rw [hN.prs]; simp) (by rw [hN.wd]; simp) (by simp) (vb_vbx e9) rfl
  have mRx := m287
  have qRx := q287
  have mEx := m288
  have qEx := q288
  have cPx := c291
  refine L_bi (.slice va (k + 1) vc) h293 rfl rfl kr (vs := [G.S .prs, .slice (some ⟨h291.next, 0, none⟩) 1 1]) kr (bi_append e293) ?_
  replace c289 := c289.lt
  replace c291 := c291.lt
  replace c292 := c292.lt
  have T293 : Sm (fun q => vb (G.S .prs) = some q) h292 h293 := t293
  have N293 := T293.nx
  refine L_nil ⟨rfl, ?_⟩
  refine D_e (e := 17) (l := [15, 16]) (s' := []) kr kr rfl kr (Rk_noRead kr) ?_
  refine NS_b 2 kr ?_
  refine NS_nil ?_
  obtain ⟨h294, e294, d294, t294, n294⟩ := ((cw0.ext T292).sm T293 hnw).store (P := Try.prog) (T := 74) (o := 1) (v := .slice va (k + 1) vc) kr rfl rfl (by simp)
  have NB := T292.nx
  obtain ⟨G2, hN2, hB2⟩ := hN.step T292 (bR := hh.next) (bE := h287.next) (bC := bb290) (bP := h290.next) (by omega) (by omega) (by omega) (by omega) (by omega) mRx qRx mEx qEx (by rw [List.map_replicate]; exact ccy) cPx g293 T293 (fun q hq => .inl hq) (fun q hq => f293 q hq) d294 t294
  have T2 : Sm Nix h h294 := ((TL.ext T292).trans T293 (fun q hq => .inr (hN.mu q ⟨.prs, by rw [hN.prs]; simp, vb_vbx hq⟩))).trans t294 (fun q hq => .inr (hN.mu q ⟨.wd, by rw [hN.wd]; simp, by subst hq; rfl⟩))
  refine L_st _ rfl rfl rfl kr kr (e294) ?_
  have T294 : Sm Nix h294 h294 := .refl
  refine L_nil ⟨rfl, ?_⟩
  refine D_l (l := []) kr kr Rk_nil ?_
  refine NS_nil ?_
  refine W_region ?_
  refine L_i ((k : Int)) (1) (nv ((k + 1 : Nat) : Int)) rfl rfl kr kr rfl (inc_ok (by omega)) ?_
  refine L_g 1 kr ?_
  refine L_nil ?_
  exact ⟨n - (k + 1), by omega, k + 1, G2, rfl, by omega, hN2, T2, hB2.trans hB, kr, kr, (by rw [← hB]; kernel_rfl), kr, kr⟩
 ·
  have hge : k = n := by simp at hb; omega
  subst hge
  refine W_exit ?_
  repeat with_reducible refine then_exit ?_
  refine exit_here ?_
  refine W_seq ?_
  refine W_region ?_
  refine L_g 3 kr ?_
  refine L_nil ?_
  refine W_ret ?_
  repeat first | with_reducible refine then_ret ?_ | with_reducible refine blk_ret ?_
  obtain ⟨G3, R3, hB3, hm3⟩ := hN.rep
  refine done_of (v := .tuple ⟨[ptr (G.B .wd), nv 0]⟩) (.inl rfl) kr ?_
  exact ⟨G3, by rw [hB3], R3, hm3, TL⟩
end
end Go.Proofs.Ytmehemeoaplepaa
namespace Go.Mt
open Go.Arm
namespace Wd
def mv (w : Wd) (a b j : Nat) : Wd := (w.setWay a b ((w.way a b).drop j)).setPr b { w.pr b with inb := (w.pr b).inb ++ ((w.way a b).take j).map fun x => ((a : Int), x) }
theorem setWay_at (w : Wd) (a b : Int) (l : List Pk) : (w.setWay a b l).way a b = l := by
 show ups w.way a (ups (w.way a) b l) a b = l
 rw [ups_at, ups_at]
theorem setWay_setWay (w : Wd) (a b : Int) (l m : List Pk) : (w.setWay a b l).setWay a b m = w.setWay a b m := by
 unfold setWay
 congr 1
 funext q
 by_cases e : q = a
 · subst e
   funext k
   by_cases e2 : k = b
   · subst e2; simp [ups]
   · simp [ups, e2]
 · simp [ups, e]
theorem setPr_setPr (w : Wd) (p : Nat) (x y : Pr) : (w.setPr p x).setPr p y = w.setPr p y := by
 unfold setPr
 congr 1
 funext q
 by_cases e : q = p
 · subst e; simp [ups]
 · simp [ups, e]
theorem setPr_same (w : Wd) (p : Nat) : w.setPr p (w.pr p) = w := by
 unfold setPr; rw [ups_id]
theorem setWay_same (w : Wd) (a b : Int) : w.setWay a b (w.way a b) = w := by
 unfold setWay; rw [ups_id, ups_id]
theorem mv_0 (w : Wd) (a b : Nat) : w.mv a b 0 = w := by
 unfold mv
 rw [List.drop_zero, List.take_zero, List.map_nil, List.append_nil, setWay_same]
 exact setPr_same w b
theorem mv_way (w : Wd) (a b j : Nat) : (w.mv a b j).way a b = (w.way a b).drop j := setWay_at _ _ _ _
theorem mv_inb (w : Wd) (a b j : Nat) : ((w.mv a b j).pr b).inb = (w.pr b).inb ++ ((w.way a b).take j).map fun x => ((a : Int), x) := by
 unfold mv; rw [setPr_at]
theorem mv_s (w : Wd) (a b j : Nat) {x : Pk} {l : List Pk} (h : (w.way a b).drop j = x :: l) : (((w.mv a b j).setWay a b l).setPr b { (w.mv a b j).pr b with inb := ((w.mv a b j).pr b).inb ++ [((a : Int), x)] }) = w.mv a b (j + 1) := by
 have hd : (w.way a b).drop (j + 1) = l := by rw [← List.drop_drop, h]; rfl
 have ht : (w.way a b).take (j + 1) = (w.way a b).take j ++ [x] := by
  have hj : (w.way a b)[j]? = some x := by
   have := congrArg (fun l => l[0]?) h
   simpa using this
  rw [List.take_add_one, hj]; rfl
 rw [mv_inb]
 unfold mv
 rw [setPr_at, hd, ht, List.map_append, ← List.append_assoc]
 show (((w.setWay a b _).setPr b _).setWay a b l).setPr b _ = _
 have : ∀ (m : List Pk) (y : Pr), ((w.setWay a b m).setPr b y).setWay a b l = (w.setWay a b l).setPr b y := fun m y => by
  show ((w.setWay a b m).setWay a b l).setPr b y = _
  rw [setWay_setWay]
 rw [this, setPr_setPr]
 rfl
def delAll (w : Wd) (a b : Nat) : Option Wd := if (w.way a b).length < 200 ∧ (w.pr b).inb.length + 200 < big then some (w.mv a b (w.way a b).length) else none
def rowD (a : Nat) : Nat → Nat → Wd → Option Wd
 | _, 0, w => some w
 | b, m + 1, w => (w.delAll a b).bind (rowD a (b + 1) m)
def allD (n : Nat) : Nat → Nat → Wd → Option Wd
 | _, 0, w => some w
 | a, m + 1, w => (rowD a 0 n w).bind (allD n (a + 1) m)
def callsD : Nat → Nat → Wd → Option Wd
 | _, 0, w => some w
 | p, m + 1, w => (w.call p).bind (callsD (p + 1) m)
def rnd (w : Wd) : Option Wd := (allD w.n 0 w.n w).bind (callsD 0 w.n)
inductive Settles : Nat → Wd → Wd → Prop
 | last {w w1 : Wd} (h : w.rnd = some w1) (q : w1.quiet) : Settles 0 w w1
 | more {k : Nat} {w w1 w2 : Wd} (h : w.rnd = some w1) (q : ¬ w1.quiet) (t : Settles k w1 w2) : Settles (k + 1) w w2
theorem Settles.step {k : Nat} {w w' : Wd} (h : Settles k w w') : ∃ w1, w.rnd = some w1 ∧ ((w1.quiet ∧ w1 = w') ∨ (¬ w1.quiet ∧ ∃ k', k = k' + 1 ∧ Settles k' w1 w')) := by
 cases h with
 | last h q => exact ⟨_, h, .inl ⟨q, rfl⟩⟩
 | more h q t => exact ⟨_, h, .inr ⟨q, _, rfl, t⟩⟩
theorem delAll_n {w w' : Wd} {a b : Nat} (h : w.delAll a b = some w') : w'.n = w.n := by
 unfold delAll at h
 split at h
 · cases h; rfl
 · cases h
theorem rowD_n {a : Nat} : ∀ {m b : Nat} {w w' : Wd}, rowD a b m w = some w' → w'.n = w.n
 | 0, b, w, w', h => by cases h; rfl
 | m + 1, b, w, w', h => by
  obtain ⟨w1, h1, h2⟩ := Option.bind_eq_some_iff.1 h
  rw [rowD_n h2, delAll_n h1]
theorem allD_n {n : Nat} : ∀ {m a : Nat} {w w' : Wd}, allD n a m w = some w' → w'.n = w.n
 | 0, a, w, w', h => by cases h; rfl
 | m + 1, a, w, w', h => by
  obtain ⟨w1, h1, h2⟩ := Option.bind_eq_some_iff.1 h
  rw [allD_n h2, rowD_n h1]
theorem callsD_n : ∀ {m p : Nat} {w w' : Wd}, callsD p m w = some w' → w'.n = w.n
 | 0, p, w, w', h => by cases h; rfl
 | m + 1, p, w, w', h => by
  obtain ⟨w1, h1, h2⟩ := Option.bind_eq_some_iff.1 h
  rw [callsD_n h2, call_n h1]
theorem rnd_n {w w' : Wd} (h : w.rnd = some w') : w'.n = w.n := by
 obtain ⟨w1, h1, h2⟩ := Option.bind_eq_some_iff.1 h
 rw [callsD_n h2, allD_n h1]
end Wd
end Go.Mt
namespace Go.Proofs.Ytmehemeoaplepaa
noncomputable section
open Go Go.X Go.Arm Go.Mt
set_option maxHeartbeats 2000000 in
theorem settle_ok {W : Wd} {G : Gh} {h : AH} {k : Nat} {W' : Wd} (R : Rep W G h) (hbig : W.n < 1000) (hk : k < 2000) (hs : Wd.Settles k W W') :
  Arm.Calls Try.prog 14 [ptr (G.B .wd), nv (W.n : Int)] h (fun r => r.1 = .bool true ∧ Nxt W' G h r.2) := by
 have hbg : W.n < big := Nat.lt_trans hbig (by decide)
 refine Calls_of_W (n := 56) (fn := Try.f14) kr rfl rfl (Nat.le_of_ble_eq_true rfl) trivial ⟨.inr (by simp), rfl⟩ ?_
 have T0 : Sm Nix h h := .refl
 refine W_seq ?_
 refine W_region ?_
 refine L_g 1 kr ?_
 refine L_nil ?_
 refine W_seq ?_
 refine W_seq ?_
 refine W_region ?_
 refine L_g 1 kr ?_
 refine L_nil ?_
 refine W_block ?_
 refine W_loop (fun mm fr hh => ∃ (k : Nat) (i : Nat) (Wa : Wd) (Sa : Ro → Value) (Ca : Ro → Th) (ra : Nat → Prop), mm = k ∧ (i + k < 2000) ∧ (Wd.Settles k Wa W') ∧ Wa.n = W.n ∧ Rep Wa (⟨G.B, Sa, Ca, ra⟩ : Gh) hh ∧ Gx G h (⟨G.B, Sa, Ca, ra⟩ : Gh) hh ∧ fr 0 = ptr (G.B .wd) ∧ fr 1 = nv (W.n : Int) ∧ fr 12 = nv (i : Int)) (k) ?_ ?_
 ·
  have T0x := T0
  exact ⟨k, 0, W, _, _, _, rfl, by omega, hs, rfl, (R.ext T0), ((Gx.refl).trans (Gx.of T0)), kr, kr, kr⟩
 rintro mm fr hha ⟨k, i, Wa, Sa, Ca, ra, hma, ha1, ha2, hna, Ra, Xa, y0, y1, y12⟩
 refine W_set (k := 0) y0 ?_
 refine W_set (k := 1) y1 ?_
 refine W_set (k := 12) y12 ?_
 have Ta : Sm Nix hha hha := .refl
 obtain ⟨W1, hr1, hq1⟩ := ha2.step
 obtain ⟨Wy, hal, hcl⟩ := Option.bind_eq_some_iff.1 hr1
 rw [hna] at hal hcl
 refine W_seq ?_
 refine W_region ?_
 refine L_i ((i : Int)) (2000) (.bool true) rfl rfl kr kr rfl (by first | (simp; done) | (simp; omega)) ?_
 refine L_nil ?_
 refine W_seq ?_
 refine W_cond true kr (fun _ => ?_) (fun e => by cases e)
 refine W_skip ?_
 refine W_seq ?_
 refine W_block ?_
 refine W_seq ?_
 refine W_seq ?_
 refine W_region ?_
 refine L_g 2 kr ?_
 refine L_nil ?_
 refine W_block ?_
 refine W_loop (fun mm fr hh => ∃ (p : Nat) (Wb : Wd) (Sb : Ro → Value) (Cb : Ro → Th) (rb : Nat → Prop), mm = W.n - p ∧ (p ≤ W.n) ∧ (Wd.allD W.n p (W.n - p) Wb = some Wy) ∧ Wb.n = W.n ∧ Rep Wb (⟨G.B, Sb, Cb, rb⟩ : Gh) hh ∧ Gx G h (⟨G.B, Sb, Cb, rb⟩ : Gh) hh ∧ fr 0 = ptr (G.B .wd) ∧ fr 1 = nv (W.n : Int) ∧ fr 12 = nv (i : Int) ∧ fr 14 = nv (W.n : Int) ∧ fr 15 = nv (p : Int)) (W.n) ?_ ?_
 ·
  exact ⟨0, Wa, _, _, _, rfl, Nat.zero_le _, hal, hna, (Ra.ext Ta), ((Xa).trans (Gx.of Ta)), kr, kr, kr, kr, kr⟩
 rintro mm fr hhb ⟨p, Wb, Sb, Cb, rb, hmb, hb1, hb2, hnb, Rb, Xb, y0, y1, y12, y14, y15⟩
 refine W_set (k := 0) y0 ?_
 refine W_set (k := 1) y1 ?_
 refine W_set (k := 12) y12 ?_
 refine W_set (k := 14) y14 ?_
 refine W_set (k := 15) y15 ?_
 have Tb : Sm Nix hhb hhb := .refl
 refine W_seq ?_
 refine W_region ?_
 refine L_i ((p : Int)) ((W.n : Int)) (.bool (decide ((p : Int) < (W.n : Int)))) rfl rfl kr kr rfl (rfl) ?_
 refine L_nil ?_
 refine W_seq ?_
 refine W_cond (decide ((p : Int) < (W.n : Int))) kr (fun hb => ?_) (fun hb => ?_)
 ·
  have hpl : p < W.n := by simp at hb; omega
  rw [show W.n - p = (W.n - (p + 1)) + 1 by omega] at hb2
  obtain ⟨Wx, hx1, hb3⟩ := Option.bind_eq_some_iff.1 hb2
  have hnx : Wx.n = W.n := (Wd.rowD_n hx1).trans hnb
  refine W_skip ?_
  refine W_seq ?_
  refine W_block ?_
  refine W_seq ?_
  refine W_region ?_
  refine L_g 2 kr ?_
  refine L_nil ?_
  refine W_seq ?_
  refine W_region ?_
  refine L_g 2 kr ?_
  refine L_nil ?_
  refine W_block ?_
  refine W_loop (fun mm fr hh => ∃ (q : Nat) (Wc : Wd) (Sc : Ro → Value) (Cc : Ro → Th) (rc : Nat → Prop), mm = W.n - q ∧ (q ≤ W.n) ∧ (Wd.rowD p q (W.n - q) Wc = some Wx) ∧ Wc.n = W.n ∧ Rep Wc (⟨G.B, Sc, Cc, rc⟩ : Gh) hh ∧ Gx G h (⟨G.B, Sc, Cc, rc⟩ : Gh) hh ∧ fr 0 = ptr (G.B .wd) ∧ fr 1 = nv (W.n : Int) ∧ fr 12 = nv (i : Int) ∧ fr 14 = nv (W.n : Int) ∧ fr 15 = nv (p : Int) ∧ fr 5 = nv (p : Int) ∧ fr 18 = nv (W.n : Int) ∧ fr 19 = nv (q : Int)) (W.n) ?_ ?_
  ·
   exact ⟨0, Wb, _, _, _, rfl, Nat.zero_le _, hx1, hnb, (Rb.ext Tb), ((Xb).trans (Gx.of Tb)), kr, kr, kr, kr, kr, kr, kr, kr⟩
  rintro mm fr hhc ⟨q, Wc, Sc, Cc, rc, hmc, hc1, hc2, hnc, Rc, Xc, y0, y1, y12, y14, y15, y5, y18, y19⟩
  refine W_set (k := 0) y0 ?_
  refine W_set (k := 1) y1 ?_
  refine W_set (k := 12) y12 ?_
  refine W_set (k := 14) y14 ?_
  refine W_set (k := 15) y15 ?_
  refine W_set (k := 5) y5 ?_
  refine W_set (k := 18) y18 ?_
  refine W_set (k := 19) y19 ?_
  have Tc : Sm Nix hhc hhc := .refl
  refine W_seq ?_
  refine W_region ?_
  refine L_i ((q : Int)) ((W.n : Int)) (.bool (decide ((q : Int) < (W.n : Int)))) rfl rfl kr kr rfl (rfl) ?_
  refine L_nil ?_
  refine W_seq ?_
  refine W_cond (decide ((q : Int) < (W.n : Int))) kr (fun hb => ?_) (fun hb => ?_)
  ·
   have hql : q < W.n := by simp at hb; omega
   rw [show W.n - q = (W.n - (q + 1)) + 1 by omega] at hc2
   obtain ⟨Wu, hu1, hc3⟩ := Option.bind_eq_some_iff.1 hc2
   have hnu : Wu.n = W.n := (Wd.delAll_n hu1).trans hnc
   unfold Wd.delAll at hu1
   split at hu1
   rotate_right
   · cases hu1
   rename_i hlen
   obtain rfl := Option.some.inj hu1
   refine W_skip ?_
   refine W_seq ?_
   refine W_block ?_
   refine W_seq ?_
   refine W_region ?_
   refine L_g 2 kr ?_
   refine L_nil ?_
   refine W_seq ?_
   refine W_region ?_
   refine L_g 1 kr ?_
   refine L_nil ?_
   refine W_block ?_
   refine W_loop (fun mm fr hh => ∃ (j : Nat) (Wd9 : Wd) (Sd : Ro → Value) (Cd : Ro → Th) (rd : Nat → Prop), mm = (Wc.way p q).length - j ∧ (j ≤ (Wc.way p q).length) ∧ (Wd9 = Wc.mv p q j) ∧ Wd9.n = W.n ∧ Rep Wd9 (⟨G.B, Sd, Cd, rd⟩ : Gh) hh ∧ Gx G h (⟨G.B, Sd, Cd, rd⟩ : Gh) hh ∧ fr 0 = ptr (G.B .wd) ∧ fr 1 = nv (W.n : Int) ∧ fr 12 = nv (i : Int) ∧ fr 14 = nv (W.n : Int) ∧ fr 15 = nv (p : Int) ∧ fr 5 = nv (p : Int) ∧ fr 18 = nv (W.n : Int) ∧ fr 19 = nv (q : Int) ∧ fr 6 = nv (q : Int) ∧ fr 22 = nv (j : Int)) ((Wc.way p q).length) ?_ ?_
   ·
     exact ⟨0, Wc, _, _, _, rfl, Nat.zero_le _, (Wd.mv_0 Wc p q).symm, hnc, (Rc.ext Tc), ((Xc).trans (Gx.of Tc)), kr, kr, kr, kr, kr, kr, kr, kr, kr, kr⟩
   rintro mm fr hhd ⟨j, Wd9, Sd, Cd, rd, hmd, hd1, hd2, hnd, Rd, Xd, y0, y1, y12, y14, y15, y5, y18, y19, y6, y22⟩
   refine W_set (k := 0) y0 ?_
   refine W_set (k := 1) y1 ?_
   refine W_set (k := 12) y12 ?_
   refine W_set (k := 14) y14 ?_
   refine W_set (k := 15) y15 ?_
   refine W_set (k := 5) y5 ?_
   refine W_set (k := 18) y18 ?_
   refine W_set (k := 19) y19 ?_
   refine W_set (k := 6) y6 ?_
   refine W_set (k := 22) y22 ?_
   have Td : Sm Nix hhd hhd := .refl
   refine W_seq ?_
   refine W_region ?_
   refine L_i ((j : Int)) (200) (.bool true) rfl rfl kr kr rfl (by first | (simp; done) | (simp; omega)) ?_
   refine L_nil ?_
   refine W_seq ?_
   refine W_cond true kr (fun _ => ?_) (fun e => by cases e)
   refine W_skip ?_
   refine W_seq ?_
   refine W_block ?_
   refine W_seq ?_
   subst hd2
   have hp9 : p < (Wc.mv p q j).n := by show p < Wc.n; rw [hnc]; exact hpl
   have hq9 : q < (Wc.mv p q j).n := by show q < Wc.n; rw [hnc]; exact hql
   by_cases hj : j = (Wc.way p q).length
   ·
     have hem : (Wc.mv p q j).way p q = [] := by rw [Wd.mv_way, hj, List.drop_length]
     subst hj
     refine W_region ?_
     refine L_g 3 kr ?_
     refine L_c rfl rfl kr (deliver_no (a := p) (b := q) (Rd.ext Td) hp9 hq9 hem) ?_
     rintro v295 h295 ⟨e295, t295⟩
     try dsimp only at e295
     try dsimp only at t295
     subst e295
     have T295 : Sm Nix hhd h295 := Td.ext t295
     have N295 := T295.nx
     have M295 := t295.nx
     refine L_g 5 kr ?_
     refine L_nil ?_
     refine W_seq ?_
     refine W_region ?_
     refine L_g 6 kr ?_
     refine L_nil ?_
     refine W_cond true kr (fun _ => ?_) (fun e => by cases e)
     refine W_exit ?_
     repeat with_reducible refine then_exit ?_
     refine exit_out rfl ?_
     repeat with_reducible refine then_exit ?_
     refine exit_here ?_
     refine W_region ?_
     refine L_i ((q : Int)) (1) (nv ((q + 1 : Nat) : Int)) rfl rfl kr kr rfl (inc_ok (by omega)) ?_
     refine L_g 1 kr ?_
     refine L_nil ?_
     exact ⟨W.n - (q + 1), by omega, (q + 1), _, _, _, _, rfl, by omega, hc3, hnu, (Rd.ext T295), ((Xd).trans (Gx.of T295)), kr, kr, kr, kr, kr, kr, kr, kr⟩
   ·
     obtain ⟨x, hx⟩ : ∃ x, (Wc.way p q)[j]? = some x := ⟨_, List.getElem?_eq_getElem (by omega)⟩
     have hdr := drop_cons hx
     have hwy : (Wc.mv p q j).way p q = x :: (Wc.way p q).drop (j + 1) := by rw [Wd.mv_way, hdr]
     have hbg : ((Wc.mv p q j).pr q).inb.length < big := by rw [Wd.mv_inb, List.length_append, List.length_map, List.length_take]; have := hlen.1; have := hlen.2; omega
     refine W_region ?_
     refine L_g 3 kr ?_
     refine L_c rfl rfl kr (deliver_ok (a := p) (b := q) (Rd.ext Td) hp9 hq9 hwy hbg) ?_
     rintro v296 h296 ⟨e296, N296⟩
     dsimp only at e296 N296
     subst e296
     obtain ⟨S296, C296, ro296, R296, Y296⟩ := N296
     have X296 := ((Xd).trans (Gx.of Td)).trans Y296
     have T296 : Sm (Ow h (⟨Gh.B (⟨G.B, Sd, Cd, rd⟩ : Gh), S296, C296, ro296⟩ : Gh)) h296 h296 := .refl
     refine L_g 5 kr ?_
     refine L_nil ?_
     refine W_seq ?_
     refine W_region ?_
     refine L_g 6 kr ?_
     refine L_nil ?_
     refine W_cond false kr (fun e => by cases e) (fun _ => ?_)
     refine W_skip ?_
     refine W_region ?_
     refine L_i ((j : Int)) (1) (nv ((j + 1 : Nat) : Int)) rfl rfl kr kr rfl (inc_ok (by have := hlen.1; omega)) ?_
     refine L_g 1 kr ?_
     refine L_nil ?_
     exact ⟨(Wc.way p q).length - (j + 1), by omega, (j + 1), _, _, _, _, rfl, by omega, Wd.mv_s Wc p q j hdr, hnu, (R296.ow T296), ((X296).ow T296), kr, kr, kr, kr, kr, kr, kr, kr, kr, kr⟩
  ·
   have hge : q = W.n := by simp at hb; omega
   rw [hge, Nat.sub_self] at hc2
   obtain rfl := Option.some.inj hc2
   refine W_exit ?_
   repeat with_reducible refine then_exit ?_
   refine exit_here ?_
   refine W_region ?_
   refine L_i ((p : Int)) (1) (nv ((p + 1 : Nat) : Int)) rfl rfl kr kr rfl (inc_ok (by omega)) ?_
   refine L_g 1 kr ?_
   refine L_nil ?_
   exact ⟨W.n - (p + 1), by omega, (p + 1), _, _, _, _, rfl, by omega, hb3, hnx, (Rc.ext Tc), ((Xc).trans (Gx.of Tc)), kr, kr, kr, kr, kr⟩
 ·
  have hge : p = W.n := by simp at hb; omega
  rw [hge, Nat.sub_self] at hb2
  obtain rfl := Option.some.inj hb2
  refine W_exit ?_
  repeat with_reducible refine then_exit ?_
  refine exit_here ?_
  refine W_seq ?_
  refine W_seq ?_
  refine W_region ?_
  refine L_g 2 kr ?_
  refine L_nil ?_
  refine W_block ?_
  refine W_loop (fun mm fr hh => ∃ (p : Nat) (We : Wd) (Se : Ro → Value) (Ce : Ro → Th) (re : Nat → Prop), mm = W.n - p ∧ (p ≤ W.n) ∧ (Wd.callsD p (W.n - p) We = some W1) ∧ We.n = W.n ∧ Rep We (⟨G.B, Se, Ce, re⟩ : Gh) hh ∧ Gx G h (⟨G.B, Se, Ce, re⟩ : Gh) hh ∧ fr 0 = ptr (G.B .wd) ∧ fr 1 = nv (W.n : Int) ∧ fr 12 = nv (i : Int) ∧ fr 40 = nv (W.n : Int) ∧ fr 41 = nv (p : Int)) (W.n) ?_ ?_
  ·
   exact ⟨0, _, _, _, _, rfl, Nat.zero_le _, hcl, hnb, (Rb.ext Tb), ((Xb).trans (Gx.of Tb)), kr, kr, kr, kr, kr⟩
  rintro mm fr hhe ⟨p, We, Se, Ce, re, hme, he1, he2, hne, Re, Xe, y0, y1, y12, y40, y41⟩
  refine W_set (k := 0) y0 ?_
  refine W_set (k := 1) y1 ?_
  refine W_set (k := 12) y12 ?_
  refine W_set (k := 40) y40 ?_
  refine W_set (k := 41) y41 ?_
  have Te : Sm Nix hhe hhe := .refl
  refine W_seq ?_
  refine W_region ?_
  refine L_i ((p : Int)) ((W.n : Int)) (.bool (decide ((p : Int) < (W.n : Int)))) rfl rfl kr kr rfl (rfl) ?_
  refine L_nil ?_
  refine W_seq ?_
  refine W_cond (decide ((p : Int) < (W.n : Int))) kr (fun hb => ?_) (fun hb => ?_)
  ·
   have hpl : p < W.n := by simp at hb; omega
   rw [show W.n - p = (W.n - (p + 1)) + 1 by omega] at he2
   obtain ⟨Wv, hv1, he3⟩ := Option.bind_eq_some_iff.1 he2
   have hnv : Wv.n = W.n := (Wd.call_n hv1).trans hne
   have hp9 : p < We.n := by rw [hne]; exact hpl
   refine W_skip ?_
   refine W_seq ?_
   refine W_block ?_
   refine W_seq ?_
   refine W_region ?_
   refine L_g 2 kr ?_
   refine L_nil ?_
   refine W_seq ?_
   refine W_region ?_
   refine L_g 2 kr ?_
   refine L_c rfl rfl kr (prog_ok (Re.ext Te) hp9 hv1) ?_
   rintro v297 h297 ⟨e297, N297⟩
   dsimp only at e297 N297
   subst e297
   obtain ⟨S297, C297, ro297, R297, Y297⟩ := N297
   have X297 := ((Xe).trans (Gx.of Te)).trans Y297
   have T297 : Sm (Ow h (⟨Gh.B (⟨G.B, Se, Ce, re⟩ : Gh), S297, C297, ro297⟩ : Gh)) h297 h297 := .refl
   refine L_g 5 kr ?_
   refine L_nil ?_
   refine W_seq ?_
   refine W_region ?_
   refine L_g 2 kr ?_
   refine L_nil ?_
   refine W_cond false kr (fun e => by cases e) (fun _ => ?_)
   refine W_skip ?_
   refine W_region ?_
   refine L_i ((p : Int)) (1) (nv ((p + 1 : Nat) : Int)) rfl rfl kr kr rfl (inc_ok (by omega)) ?_
   refine L_g 1 kr ?_
   refine L_nil ?_
   exact ⟨W.n - (p + 1), by omega, (p + 1), _, _, _, _, rfl, by omega, he3, hnv, (R297.ow T297), ((X297).ow T297), kr, kr, kr, kr, kr⟩
  ·
   have hge : p = W.n := by simp at hb; omega
   rw [hge, Nat.sub_self] at he2
   obtain rfl := Option.some.inj he2
   refine W_exit ?_
   repeat with_reducible refine then_exit ?_
   refine exit_here ?_
   refine W_seq ?_
   rcases hq1 with ⟨hqt, hw9⟩ | ⟨hqf, k', hk', hst⟩
   ·
     subst hw9
     refine W_region ?_
     refine L_g 1 kr ?_
     refine L_c rfl rfl kr (quiet_ok (Re.ext Te) (by rw [hne]; exact hbg)) ?_
     rintro v298 h298 ⟨b298, e298, q298, t298⟩
     try dsimp only at t298
     dsimp only at e298 t298
     obtain rfl : b298 = true := q298.2 hqt
     subst e298
     have T298 : Sm Nix hhe h298 := Te.ext t298
     have N298 := T298.nx
     have M298 := t298.nx
     refine L_nil ?_
     refine W_cond true kr (fun _ => ?_) (fun e => by cases e)
     refine W_seq ?_
     refine W_region ?_
     refine L_g 1 kr ?_
     refine L_nil ?_
     refine W_ret ?_
     repeat first | with_reducible refine then_ret ?_ | with_reducible refine blk_ret ?_
     refine done_of (v := .bool true) (.inl rfl) kr ?_
     exact ⟨rfl, _, _, _, (Re.ext T298), ((Xe).trans (Gx.of T298))⟩
   ·
     refine W_region ?_
     refine L_g 1 kr ?_
     refine L_c rfl rfl kr (quiet_ok (Re.ext Te) (by rw [hne]; exact hbg)) ?_
     rintro v299 h299 ⟨b299, e299, q299, t299⟩
     try dsimp only at t299
     dsimp only at e299 t299
     obtain rfl : b299 = false := by
      cases b299 with
      | false => rfl
      | true => exact (hqf (q299.1 rfl)).elim
     subst e299
     have T299 : Sm Nix hhe h299 := Te.ext t299
     have N299 := T299.nx
     have M299 := t299.nx
     refine L_nil ?_
     refine W_cond false kr (fun e => by cases e) (fun _ => ?_)
     refine W_skip ?_
     refine W_region ?_
     refine L_i ((i : Int)) (1) (nv ((i + 1 : Nat) : Int)) rfl rfl kr kr rfl (inc_ok (by omega)) ?_
     refine L_g 1 kr ?_
     refine L_nil ?_
     exact ⟨k', by omega, k', (i + 1), _, _, _, _, rfl, by omega, hst, (Wd.rnd_n hr1).trans hna, (Re.ext T299), ((Xe).trans (Gx.of T299)), kr, kr, kr⟩
end
end Go.Proofs.Ytmehemeoaplepaa
namespace Go.Mt
open Go.Arm
def T2 (K : Wd) (a b : Pr) (f g : Nat → Rq) (u v : List Pk) : Wd := ⟨K.lim, 2, fun p => if p = 0 then a else if p = 1 then b else K.pr p, fun p => if p = 0 then f else if p = 1 then g else K.rq p,
 fun i j => if i = 0 ∧ j = 1 then u else if i = 1 ∧ j = 0 then v else []⟩
theorem ups_ups {α : Type} (f : Nat → α) (k : Nat) (x y : α) : ups (ups f k x) k y = ups f k y := by
 funext j; simp only [ups]; split <;> rfl
namespace T2
variable {K : Wd} {a b : Pr} {f g : Nat → Rq} {u v : List Pk}
theorem pr0_ : (T2 K a b f g u v).pr 0 = a := rfl
theorem pr1_ : (T2 K a b f g u v).pr 1 = b := rfl
theorem rq0_ : (T2 K a b f g u v).rq 0 = f := rfl
theorem rq1_ : (T2 K a b f g u v).rq 1 = g := rfl
theorem way01 : (T2 K a b f g u v).way 0 1 = u := rfl
theorem way10 : (T2 K a b f g u v).way 1 0 = v := rfl
theorem setPr0 (x : Pr) : (T2 K a b f g u v).setPr 0 x = T2 K x b f g u v := by
 unfold Wd.setPr T2; congr 1; funext p; simp only [ups]; split <;> simp_all
theorem setPr1 (x : Pr) : (T2 K a b f g u v).setPr 1 x = T2 K a x f g u v := by
 unfold Wd.setPr T2; congr 1; funext p; simp only [ups]; split <;> simp_all
theorem setRq0 (no : Nat) (x : Rq) : (T2 K a b f g u v).setRq 0 no x = T2 K a b (ups f no x) g u v := by
 unfold Wd.setRq T2; congr 1; funext p; simp only [ups]; split <;> simp_all
theorem setRq1 (no : Nat) (x : Rq) : (T2 K a b f g u v).setRq 1 no x = T2 K a b f (ups g no x) u v := by
 unfold Wd.setRq T2; congr 1; funext p; simp only [ups]; split <;> simp_all
theorem setWay00 : (T2 K a b f g u v).setWay 0 0 [] = T2 K a b f g u v := Wd.setWay_same _ 0 0
theorem setWay11 : (T2 K a b f g u v).setWay 1 1 [] = T2 K a b f g u v := Wd.setWay_same _ 1 1
theorem setWay01 (x : List Pk) : (T2 K a b f g u v).setWay 0 1 x = T2 K a b f g x v := by
 unfold Wd.setWay T2; congr 1; funext p q; simp only [ups]
 by_cases e : p = 0
 · subst e; by_cases e2 : q = 1
   · subst e2; simp [ups]
   · simp [ups, e2]
 · simp [e]
theorem setWay10 (x : List Pk) : (T2 K a b f g u v).setWay 1 0 x = T2 K a b f g u x := by
 unfold Wd.setWay T2; congr 1; funext p q; simp only [ups]
 by_cases e : p = 1
 · subst e; by_cases e2 : q = 0
   · subst e2; simp [ups]
   · simp [ups, e2]
 · simp [e]
theorem put01 {x : Pk} (h : u.length < big) : (T2 K a b f g u v).put 0 1 x = some (T2 K a b f g (u ++ [x]) v) := by
 unfold Wd.put; rw [way01, if_pos h, setWay01]
theorem put10 {x : Pk} (h : v.length < big) : (T2 K a b f g u v).put 1 0 x = some (T2 K a b f g u (v ++ [x])) := by
 unfold Wd.put; rw [way10, if_pos h, setWay10]
theorem del00 (h : a.inb.length + 200 < big) : (T2 K a b f g u v).delAll 0 0 = some (T2 K a b f g u v) := by
 unfold Wd.delAll
 rw [if_pos]
 · show some (((T2 K a b f g u v).setWay 0 0 []).setPr 0 { a with inb := a.inb ++ [] }) = _
   rw [setWay00, setPr0, List.append_nil]
 · exact ⟨by show [].length < 200; decide, h⟩
theorem del11 (h : b.inb.length + 200 < big) : (T2 K a b f g u v).delAll 1 1 = some (T2 K a b f g u v) := by
 unfold Wd.delAll
 rw [if_pos]
 · show some (((T2 K a b f g u v).setWay 1 1 []).setPr 1 { b with inb := b.inb ++ [] }) = _
   rw [setWay11, setPr1, List.append_nil]
 · exact ⟨by show [].length < 200; decide, h⟩
theorem del01 (hu : u.length < 200) (h : b.inb.length + 200 < big) : (T2 K a b f g u v).delAll 0 1 = some (T2 K a { b with inb := b.inb ++ u.map fun x => ((0 : Int), x) } f g [] v) := by
 unfold Wd.delAll
 rw [if_pos]
 · show some (((T2 K a b f g u v).setWay 0 1 (u.drop u.length)).setPr 1 { b with inb := b.inb ++ (u.take u.length).map fun x => ((0 : Int), x) }) = _
   rw [setWay01, setPr1, List.drop_length, List.take_length]
 · exact ⟨hu, h⟩
theorem del10 (hv : v.length < 200) (h : a.inb.length + 200 < big) : (T2 K a b f g u v).delAll 1 0 = some (T2 K { a with inb := a.inb ++ v.map fun x => ((1 : Int), x) } b f g u []) := by
 unfold Wd.delAll
 rw [if_pos]
 · show some (((T2 K a b f g u v).setWay 1 0 (v.drop v.length)).setPr 0 { a with inb := a.inb ++ (v.take v.length).map fun x => ((1 : Int), x) }) = _
   rw [setWay10, setPr0, List.drop_length, List.take_length]
 · exact ⟨hv, h⟩
theorem all (ha : a.inb = []) (hb : b.inb = []) (hu : u.length < 200) (hv : v.length < 200) :
  Wd.allD 2 0 2 (T2 K a b f g u v) = some (T2 K { a with inb := v.map fun x => ((1 : Int), x) } { b with inb := u.map fun x => ((0 : Int), x) } f g [] []) := by
 have h0 : a.inb.length + 200 < big := by rw [ha]; decide
 have h1 : b.inb.length + 200 < big := by rw [hb]; decide
 have hb200 : 400 < big := by decide
 simp only [Wd.allD, Wd.rowD, del00 h0, del01 hu h1, Option.bind_some, Nat.zero_add]
 rw [del10 hv h0]
 simp only [Option.bind_some]
 rw [del11 (by rw [hb]; simp only [List.nil_append, List.length_map]; omega)]
 simp only [Option.bind_some, ha, hb, List.nil_append]
theorem call0 {l : List (Int × Pk)} (ha : a.inb = l) (h : l.length < big) : (T2 K a b f g u v).call 0 = Wd.handles 0 (T2 K { a with inb := [] } b f g u v) l := by
 unfold Wd.call; rw [pr0_, ha, if_pos h, setPr0]
theorem call1 {l : List (Int × Pk)} (hb : b.inb = l) (h : l.length < big) : (T2 K a b f g u v).call 1 = Wd.handles 1 (T2 K a { b with inb := [] } f g u v) l := by
 unfold Wd.call; rw [pr1_, hb, if_pos h, setPr1]
theorem rest0 (ha : a.inb = []) : (T2 K a b f g u v).call 0 = some (T2 K a b f g u v) := by
 rw [call0 ha (by decide)]; show some (T2 K { a with inb := [] } b f g u v) = _; rw [← ha]
theorem rest1 (hb : b.inb = []) : (T2 K a b f g u v).call 1 = some (T2 K a b f g u v) := by
 rw [call1 hb (by decide)]; show some (T2 K a { b with inb := [] } f g u v) = _; rw [← hb]
theorem quiet (ha : a.inb = []) (hb : b.inb = []) : (T2 K a b f g [] []).quiet := by
 refine ⟨fun i j => ?_, fun p hp => ?_⟩
 · show (if i = 0 ∧ j = 1 then [] else if i = 1 ∧ j = 0 then [] else []) = ([] : List Pk)
   split
   · rfl
   · split <;> rfl
 · rcases p with _ | _ | p
   · exact ha
   · exact hb
   · have : (p + 1 + 1) < 2 := hp; omega
theorem loud0 {x : Pk} : ¬ (T2 K a b f g (x :: u) v).quiet := fun h => by have := h.1 0 1; rw [way01] at this; cases this
theorem rnd {w1 w2 : Wd} (ha : a.inb = []) (hb : b.inb = []) (hu : u.length < 200) (hv : v.length < 200)
  (h1 : Wd.handles 0 (T2 K a { b with inb := u.map fun x => ((0 : Int), x) } f g [] []) (v.map fun x => ((1 : Int), x)) = some w1)
  (h2 : w1.call 1 = some w2) : (T2 K a b f g u v).rnd = some w2 := by
 unfold Wd.rnd
 rw [show (T2 K a b f g u v).n = 2 from rfl, all ha hb hu hv]
 simp only [Option.bind_some, Wd.callsD, Nat.zero_add]
 have e : ({ { a with inb := v.map fun x => ((1 : Int), x) } with inb := [] } : Pr) = a := by rw [← ha]
 rw [call0 rfl (by rw [List.length_map]; exact Nat.lt_trans hv (by decide)), e, h1]
 simp only [Option.bind_some, h2]
end T2
end Go.Mt
namespace Go.Mt
open Go.Arm
structure Lap (W : Wd) (d : By) (W' : Wd) : Prop where
 ex : ∃ (k : Nat) (W2 W3 W4 W5 : Wd), W.call 0 = some W ∧ W.start 0 1 d = some W2 ∧ W2.n = 2 ∧ 1 ∈ (W2.pr 0).reqs ∧ 1 ∈ (W2.pr 1).reqs ∧ (W2.rq 0 1).pers = true ∧ (W2.rq 0 1).act = true ∧ (W2.rq 1 1).pers = true ∧ (W2.rq 1 1).act = false ∧ (W2.rq 1 1).send = false ∧
  W2.call 1 = some W2 ∧ W2.start 1 1 [] = some W3 ∧ W3.n = 2 ∧ k < 2000 ∧ Wd.Settles k W3 W4 ∧ W4.n = 2 ∧
  1 ∈ (W4.pr 0).reqs ∧ (W4.rq 0 1).act = true ∧ W4.call 0 = some W4 ∧ (W4.rq 0 1).done = true ∧ (W4.rq 0 1).send = true ∧ (W4.rq 0 1).st = ⟨1, 9, d.length, 0⟩ ∧ W5 = W4.over 0 1 ∧ W5.n = 2 ∧
  1 ∈ (W5.pr 1).reqs ∧ (W5.rq 1 1).act = true ∧ W5.call 1 = some W5 ∧ (W5.rq 1 1).done = true ∧ (W5.rq 1 1).send = false ∧ (W5.rq 1 1).st = ⟨0, 9, d.length, 0⟩ ∧ (W5.rq 1 1).data = d ∧ W' = W5.over 1 1
section
variable {K : Wd} {f g : Nat → Rq} {d : By}
end
end Go.Mt
namespace Go.Proofs.Ytmehemeoaplepaa
noncomputable section
open Go Go.X Go.Arm Go.Mt
theorem ev_bin {Q : Program} {n : Nat} {f : Fr} {h : AH} {o : Oper} {op : BinOp} {T T' : TypeId} {x y : Operand} {a b v : Value} (hop : o.op = .binOp op T x y T') (hx : ev n f x = some a) (hy : ev n f y = some b) (hv : aBin Q op T x y a b h = some v) : evVal Q n f h o.op = some v := by
 rw [hop]
 simp only [evVal, hx, hy]
 exact hv
theorem works_ok {h : AH} : Arm.Calls Try.prog 8 [] h (fun r => r = (.bool true, h)) := ⟨_, eRun_known (P := Try.prog) rfl h rfl, fun a ha => by cases List.mem_singleton.1 ha; rfl⟩
end
end Go.Proofs.Ytmehemeoaplepaa
namespace Go.Proofs.Ytmehemeoaplepaa
noncomputable section
open Go Go.X Go.Arm Go.Mt
structure Old (h0 : AH) (G : Gh) (h : AH) : Prop where
 sm : Sm (fun b => h0.next ≤ b) h0 h
 mu : ∀ b, G.mut b → h0.next ≤ b
section
variable {h0 h h' : AH} {G G' : Gh} {v : Value} {cs : List Value} {n k : Nat}
theorem Old.go (O : Old h0 G h) (X : Gx G h G' h') : Old h0 G' h' := ⟨O.sm.then (X.sm.mono fun b hb => O.mu b hb), fun b hb => (X.mu b hb).elim (O.mu b) fun e => Nat.le_trans O.sm.nx e⟩
theorem Old.sd (O : Old h0 G h) (H : Sd h0 k v n cs) : Sd h k v n cs := H.sm O.sm fun b hb hs => by
 have e1 := H.lt hb
 have e2 : h0.next ≤ b := hs
 omega
end
theorem u8mod {x : Int} (hx : 0 ≤ x ∧ x < 256) (d : Int) (hd : 0 < d) : Int.tmod (IntKind.i64.wrap x) d = ((x.toNat % d.toNat : Nat) : Int) := by
 have e : IntKind.i64.wrap x = x := by rw [IntKind.wrap_i64]; omega
 rw [e, Int.tmod_eq_emod_of_nonneg hx.1, Int.natCast_emod]
 rw [Int.toNat_of_nonneg hx.1, Int.toNat_of_nonneg (by omega)]
theorem rem_ok {x : Int} (hx : 0 ≤ x ∧ x < 256) (d : Nat) (hd : 0 < d) {E : Nat} (hE : x.toNat % d = E) {h : AH} {xo yo : Operand} (hr : aBin Try.prog .rem 3 xo yo (.int .i64 (IntKind.i64.wrap x)) (nv (d : Int)) h = some (nv (Int.tmod (IntKind.i64.wrap x) (d : Int)))) : aBin Try.prog .rem 3 xo yo (.int .i64 (IntKind.i64.wrap x)) (nv (d : Int)) h = some (nv (E : Int)) := by
 rw [hr, u8mod hx d (by omega), Int.toNat_natCast, hE]
theorem settle2 {W : Wd} {G : Gh} {h : AH} {k : Nat} {W' : Wd} (R : Rep W G h) (hn : W.n = 2) (hk : k < 2000) (hs : Wd.Settles k W W') :
  Arm.Calls Try.prog 14 [ptr (G.B .wd), nv 2] h (fun r => r.1 = .bool true ∧ Nxt W' G h r.2) := by
 have := settle_ok R (by rw [hn]; decide) hk hs
 rw [hn] at this
 exact this
end
end Go.Proofs.Ytmehemeoaplepaa
namespace Go.X
noncomputable section
open Go Go.RowKit
structure HeldC (k : Nat) (w : World) (v : Value) (n : Nat) (cs : List Value) : Prop where
 len : cs.length = n * k
 has : (v = .slice none 0 0 ∧ n = 0) ∨ ∃ a cap, v = .slice (some a) n cap ∧ n ≤ cap ∧ cap ≤ maxLen ∧ (0 < cap → a.spot = none ∧ a.block < w.heap.size) ∧
  ∀ i, i < cs.length → w.cell? ⟨a.block, a.off + i, none⟩ = cs[i]? ∧ w.frozen? ⟨a.block, a.off + i, none⟩ = false
end
end Go.X
namespace Go.Arm
noncomputable section
open Go Go.X Go.RowKit
end
end Go.Arm
namespace Go.Proofs.Ytmehemeoaplepaa
open Go Go.ChangeShapes Go.WideShapes Go.ChangeAt Go.RowKit
theorem own : ownKnob Try.prog.godebug = none := by kernel_rfl
theorem law_calls {P : Program} [Go.X.Kn P] (hN : Go.X.NoCount P) (hM : P.follows .mixedOrders = true) {f : FuncId} {args : List Value} {args' : Array Value} {W : World} {h : Go.X.AH} {φ : Go.X.Phi} (hR : Go.X.R W φ h W)
  (ha : Go.X.LR φ args args'.toList) (hs : Arm.Calls P f args h (fun r => r.1 = .bool true)) : Go.Calls P f args' W fun e w' => e = .returned (.bool true) ∧ RowKit.Below W.heap.size W w' := by
 obtain ⟨l, hl, hall⟩ := hs
 have hc := (Go.X.eRun_callsOk (P := P) hN hM W _ _ _ φ W (.enter f ⟨args'.toList⟩) hl hR (.enter ha)).1 _ _ rfl
 refine Go.Calls.mono hc fun e w' he => ?_
 obtain ⟨v', rfl, v, h', hm, φ', _, hr, hv⟩ := he
 have := hall _ hm
 dsimp only at this
 subst this
 cases hv
 exact ⟨rfl, hr.below⟩
theorem wf8 {n : Int} (h3 : (Lit.int .u8 n).wf = true) : 0 ≤ n ∧ n < 256 := by
 simp [Lit.wf] at h3
 have e1 : IntKind.u8.min = 0 := by decide
 have e2 : IntKind.u8.max = 255 := by decide
 rw [e1, e2] at h3
 omega
theorem u8in {P : Program} {t : TypeId} (ht : P.underlying t = some (.int .u8)) {H : Type} {enc : TypeId × Value → H} {w : World} {base : Nat} {spare : Nat → Bool} {held : Bool} {n : Int} {d : DataW H} {ps : List MemPlace}
  (h : DataW.Trod enc P w base spare held t (.int .u8 n) d ps) : 0 ≤ n ∧ n < 256 := by
 obtain ⟨fuel, h⟩ := h
 obtain ⟨n', h1, _, h2⟩ := DataW.trod_int ht h
 have : [Value.int .u8 n] = [Value.int .u8 n'] := h1
 cases this
 exact wf8 h2
theorem openByte {H : Type} {enc : TypeId × Value → H} {w : World} {base : Nat} {spare : Nat → Bool} {held : Bool} (fuel : Nat) (cs : List Value) (x : DataW H × List MemPlace) (h : DataW.trod enc Try.prog w base spare held fuel 5 cs = some x) : ∃ a : UInt8, True ∧ cs = [Arm.bv a] := by
 obtain ⟨n, e, _, hw⟩ := DataW.trod_int Try.underlying5 h
 have := wf8 hw
 refine ⟨UInt8.ofNat n.toNat, trivial, e.trans ?_⟩
 unfold Arm.bv
 have : ((UInt8.ofNat n.toNat).toNat : Int) = n := by
  rw [UInt8.toNat_ofNat']
  omega
 rw [this]
theorem flat1 (L : Go.Mt.By) : L.flatMap (fun a => [Arm.bv a]) = L.map Arm.bv := by
 induction L with
 | nil => rfl
 | cons x l ih => rw [List.flatMap_cons, List.map_cons, ih]; rfl
theorem bytes_of {W : World} {H : Type} {enc : TypeId × Value → H} {held : Bool} {b0 : Option Addr} {len0 cap0 : Nat} {d : DataW H} {ps : List MemPlace}
  (h : DataW.Trod enc Try.prog W 0 (fun _ => true) held 23 (.slice b0 len0 cap0) d ps) (hz : W.noneFrozen ps) : ∃ l : Go.Mt.By, Go.X.HeldK 1 W (.slice b0 len0 cap0) l.length (l.map Arm.bv) := by
 obtain ⟨L, _, K⟩ := Go.X.heldK_of (k := 1) (f := fun a => [Arm.bv a]) (ok := fun _ => True) (by decide) (fun a => rfl) (fun a x hx φ => by
   rw [List.mem_singleton.1 hx]; exact .int _ _) Try.underlying23 (by kernel_rfl) openByte h hz
 refine ⟨L, ?_⟩
 rw [← flat1]
 exact K
end Go.Proofs.Ytmehemeoaplepaa
