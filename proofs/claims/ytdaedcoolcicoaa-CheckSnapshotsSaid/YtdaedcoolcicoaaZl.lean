/- A part of the proof. -/
import Derived.Test.YtdaedcoolcicoaaZk
namespace Go.Proofs.Ytdaedcoolcicoaa
noncomputable section
open Go Go.X Go.Arm
theorem shl_ok {xo yo : Operand} {h : AH} : ∀ (k : Nat), k < 60 → aBin Try.prog .shl 2 xo yo (.int .i64 1) (.int .i64 (k : Nat)) h = some (.int .i64 (Fl.two k))
  | 0, _ => by kernel_rfl
  | 1, _ => by kernel_rfl
  | 2, _ => by kernel_rfl
  | 3, _ => by kernel_rfl
  | 4, _ => by kernel_rfl
  | 5, _ => by kernel_rfl
  | 6, _ => by kernel_rfl
  | 7, _ => by kernel_rfl
  | 8, _ => by kernel_rfl
  | 9, _ => by kernel_rfl
  | 10, _ => by kernel_rfl
  | 11, _ => by kernel_rfl
  | 12, _ => by kernel_rfl
  | 13, _ => by kernel_rfl
  | 14, _ => by kernel_rfl
  | 15, _ => by kernel_rfl
  | 16, _ => by kernel_rfl
  | 17, _ => by kernel_rfl
  | 18, _ => by kernel_rfl
  | 19, _ => by kernel_rfl
  | 20, _ => by kernel_rfl
  | 21, _ => by kernel_rfl
  | 22, _ => by kernel_rfl
  | 23, _ => by kernel_rfl
  | 24, _ => by kernel_rfl
  | 25, _ => by kernel_rfl
  | 26, _ => by kernel_rfl
  | 27, _ => by kernel_rfl
  | 28, _ => by kernel_rfl
  | 29, _ => by kernel_rfl
  | 30, _ => by kernel_rfl
  | 31, _ => by kernel_rfl
  | 32, _ => by kernel_rfl
  | 33, _ => by kernel_rfl
  | 34, _ => by kernel_rfl
  | 35, _ => by kernel_rfl
  | 36, _ => by kernel_rfl
  | 37, _ => by kernel_rfl
  | 38, _ => by kernel_rfl
  | 39, _ => by kernel_rfl
  | 40, _ => by kernel_rfl
  | 41, _ => by kernel_rfl
  | 42, _ => by kernel_rfl
  | 43, _ => by kernel_rfl
  | 44, _ => by kernel_rfl
  | 45, _ => by kernel_rfl
  | 46, _ => by kernel_rfl
  | 47, _ => by kernel_rfl
  | 48, _ => by kernel_rfl
  | 49, _ => by kernel_rfl
  | 50, _ => by kernel_rfl
  | 51, _ => by kernel_rfl
  | 52, _ => by kernel_rfl
  | 53, _ => by kernel_rfl
  | 54, _ => by kernel_rfl
  | 55, _ => by kernel_rfl
  | 56, _ => by kernel_rfl
  | 57, _ => by kernel_rfl
  | 58, _ => by kernel_rfl
  | 59, _ => by kernel_rfl
  | k + 60, hk => by omega
theorem ev_shl {n : Nat} {f : Fr} {h : AH} {y : Operand} {k : Nat} (hy : ev n f y = some (.int .i64 (k : Nat))) (hk : k < 60) : evVal Try.prog n f h (.binOp .shl 2 (.const (.int .i64 1)) y 3) = some (.int .i64 (Fl.two k)) := by
  have hx : ev n f (.const (.int .i64 1)) = some (.int .i64 1) := rfl
  simp only [evVal, hx, hy]
  exact shl_ok k hk
theorem u8mod {x : Int} (hx : 0 ≤ x ∧ x < 256) (d : Int) (hd : 0 < d) : Int.tmod (IntKind.i64.wrap x) d = ((x.toNat % d.toNat : Nat) : Int) := by
  have e : IntKind.i64.wrap x = x := by rw [IntKind.wrap_i64]; omega
  rw [e, Int.tmod_eq_emod_of_nonneg hx.1, Int.natCast_emod]
  rw [Int.toNat_of_nonneg hx.1, Int.toNat_of_nonneg (by omega)]
theorem minv (a b : Nat) : (if (b : Int) < (a : Int) then (b : Int) else (a : Int)) = ((min a b : Nat) : Int) := by
  split
  · rw [Nat.min_eq_right (by omega)]
  · rw [Nat.min_eq_left (by omega)]
theorem wr_ok {x : Int} (h : -9223372036854775808 ≤ x ∧ x ≤ 9223372036854775807) : IntKind.i64.wrap x = x := Fl.wr_in h
/-- How much was done to a flow of n processes. -/
structure Gd (n c : Nat) (m : Fl) : Prop where
  len : m.st.length = n
  ok : m.okM
  le : m.le (c * (n + 1))
  leC : m.leC c
section
variable {n c p q : Nat} {m : Fl} {v : Int}
theorem Gd.new {l : List Int} (hl : l.length = n) : Gd n 0 (Fl.new_ l) := ⟨hl, Fl.okM_new l, by rw [Nat.zero_mul]; exact Fl.le_new l, Fl.leC_new l⟩
theorem Gd.up {c' : Nat} (H : Gd n c m) (h : c ≤ c') : Gd n c' m := ⟨H.len, H.ok, Fl.le_mono H.le (Nat.mul_le_mul_right _ h), fun s hs w => Nat.le_trans (H.leC s hs w) h⟩
theorem Gd.pass (H : Gd n c m) : Gd n (c + 1) (m.pass p q v) := by
  refine ⟨by rw [Fl.st_pass, List.length_set]; exact H.len, Fl.okM_pass H.ok, Fl.le_mono (Fl.le_pass H.le) (by rw [Nat.succ_mul]; omega), fun s hs w => Nat.le_succ_of_le (H.leC s hs w)⟩
theorem Gd.dlv (H : Gd n c m) : Gd n (c + 1) (m.dlv p q) := by
  refine ⟨by rw [Fl.st_dlv]; exact H.len, Fl.okM_dlv H.ok, Fl.le_mono (Fl.le_dlv H.le) (by rw [Nat.succ_mul, H.len]; omega), Fl.leC_dlv H.leC⟩
theorem Gd.begin_ (H : Gd n c m) : Gd n (c + 1) (m.begin_ p) := by
  refine ⟨by rw [Fl.st_begin]; exact H.len, Fl.okM_begin, Fl.le_mono (Fl.le_begin H.le) (by rw [Nat.succ_mul, H.len]; omega), fun s hs w => Nat.le_trans (Fl.leC_begin s hs w) (Nat.zero_le _)⟩
end
section
variable {h : AH} {f : Nat} {fp : List Nat} {m : Fl} {n c p q : Nat} {v : Int}
theorem Gd.callPass (G : Gd n c m) (H : FR h f fp m) (hc : c * (n + 1) < 4000000000) (hp : p < n) (hq : q < n) (hne : p ≠ q) :
    Arm.Calls Try.prog 25 [ptr f, .int .i64 p, .int .i64 q, .int .i64 v] h (fun r => r.1 = .int .i64 0 ∧ FR r.2 f fp (m.pass p q v) ∧ Sm (· ∈ fp) h r.2) :=
  H.pass (by rw [G.len]; exact hp) (by rw [G.len]; exact hq) hne G.le hc
theorem Gd.callDlv (G : Gd n c m) (H : FR h f fp m) (hc : c * (n + 1) < 4000000000) (hn : n < 1000000) (hp : p < n) (hq : q < n) (hne : p ≠ q) :
    Arm.Calls Try.prog 26 [ptr f, .int .i64 p, .int .i64 q] h (fun r => (∃ b, r.1 = .tuple ⟨[.bool b, .int .i64 0]⟩) ∧ FR r.2 f fp (m.dlv p q) ∧ Sm (· ∈ fp) h r.2) :=
  H.dlv (by rw [G.len]; exact hp) (by rw [G.len]; exact hq) hne (by rw [G.len]; exact hn) G.le hc G.leC (by
    have : c * 1 ≤ c * (n + 1) := Nat.mul_le_mul_left _ (by omega)
    omega) G.ok
theorem Gd.callBegin (G : Gd n c m) (H : FR h f fp m) (hs : m.sh = none) (hc : c * (n + 1) < 4000000000) (hn : n < 1000000) (hp : p < n) :
    Arm.Calls Try.prog 27 [ptr f, .int .i64 p] h (fun r => r.1 = .int .i64 0 ∧ ∃ fp', FR r.2 f fp' (m.begin_ p) ∧ Sm (· ∈ fp) h r.2 ∧ ∀ x, x ∈ fp' → x ∈ fp ∨ h.next ≤ x) := by
  cases H with
  | off _ H => exact begin_ok H (by rw [G.len]; exact hp) (by rw [G.len]; exact hn) G.le hc
  | on hs' H _ _ => rw [hs] at hs'; cases hs'
theorem Gd.callTaken {s : Sh} (G : Gd n c m) (H : FR h f fp m) (hs : m.sh = some s) (hop : s.op = []) (hc : c < 4000000000) (hn : n < 1000000) :
    Arm.Calls Try.prog 28 [ptr f] h (fun r => ∃ A B fp', r.1 = .tuple ⟨[.agg ⟨[.slice (some ⟨A, 0, none⟩) n n, .slice (some ⟨B, 0, none⟩) n n]⟩, .bool true, .int .i64 0]⟩ ∧
      Sts r.2 A n n s ∧ Rws r.2 h.next B n n s ∧ h.next ≤ A ∧ h.next ≤ B ∧ FR r.2 f fp' { m with sh := none } ∧ Sm (fun x => x = f) h r.2 ∧ (∀ x, x ∈ fp' → x ∈ fp) ∧ f ∈ fp) := by
  have hl := G.len
  subst hl
  cases H with
  | off hs' H => rw [hs] at hs'; cases hs'
  | on hs' H G' nd =>
    rw [hs] at hs'
    cases hs'
    refine RX_mono (taken_on H G' nd hop hn (G.leC _ hs) hc) ?_
    rintro ⟨v, h'⟩ ⟨A, B, e, a1, a2, a3, a4, a5, a6⟩
    exact ⟨A, B, _, e, a1, a2, a3, a4, a5, a6, fun x hx => by simp only [List.mem_cons, List.not_mem_nil, or_false] at hx ⊢; omega, by simp⟩
end
/-- A law from its run. -/
theorem law_calls {P : Program} [Kn P] (hN : NoCount P) (hM : P.follows .mixedOrders = true) {f : FuncId} {args : List Value} {args' : Array Value} {W : World} {h : AH} {φ : Phi} (hR : R W φ h W)
    (ha : LR φ args args'.toList) (hs : Arm.Calls P f args h (fun r => r.1 = .bool true)) : Go.Calls P f args' W fun e w' => e = .returned (.bool true) ∧ RowKit.Below W.heap.size W w' := by
  obtain ⟨l, hl, hall⟩ := hs
  have hc := (eRun_callsOk (P := P) hN hM W _ _ _ φ W (.enter f ⟨args'.toList⟩) hl hR (.enter ha)).1 _ _ rfl
  refine Go.Calls.mono hc fun e w' he => ?_
  obtain ⟨v', rfl, v, h', hm, φ', _, hr, hv⟩ := he
  have := hall _ hm
  dsimp only at this
  subst this
  cases hv
  exact ⟨rfl, hr.below⟩
end
end Go.Proofs.Ytdaedcoolcicoaa
