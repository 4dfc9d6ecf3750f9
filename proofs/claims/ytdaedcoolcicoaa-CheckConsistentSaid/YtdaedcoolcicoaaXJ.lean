/- The closed evaluator, part J: code is evaluated rightly. -/
import Derived.Test.YtdaedcoolcicoaaXI
namespace Go.X
noncomputable section
open Go Go.RowKit
variable {w0 w w' : World} {φ φ' : Phi} {h h' : AH} {P : Program} {n : Nat} {t : T Value}

theorem region_list {ops : Array Oper} {F : Fence} {m : Nat} {Q : Exit → Act → World → Prop} {id : Nat} {a : Act} (hh : wpOpsIn F m P ops Q (List.range ops.size) a w) : (Code.region id ops false).wpIn F m P Q a w := wpIn_region hh

theorem rangeFunc_ok (hN : NoCount P) {call : Call1} (hc : CallsOk w0 P call) {ro : Option Nat} {f : Operand} {ps : List Tmp} {asg body : Code} {LF : Nat} : CodeOk w0 P n ro (.rangeFunc f ⟨ps⟩ asg body) (aCode0 P call n LF ro (.rangeFunc f ⟨ps⟩ asg body)) := by
  intro t ds h l φ a w q m hs hr hf hd hq
  simp only [aCode0] at hs
  split at hs
  · rename_i g first cap hfv
    have hfv' := aO_ok hf hfv
    split at hs
    · rename_i lb ms h2 hen
      unfold aEnter at hen
      split at hen
      · cases hen
      · split at hen
        · rename_i d h1 hn1
          split at hen
          · rename_i lb' h2' hn2
            cases hen
            obtain rfl : q = none := hq
            refine wpIn_rangeFunc fun fn _ => ?_
            -- the blocks
            obtain ⟨φ1, nx1, hb1, r1⟩ := hr.newObj (x := .deferred (some [])) hn1 (fun φ' w' _ hw => hw)
            have hsz : (w.alloc (.deferred (some []))).heap.size = w.heap.size + 1 := by simp
            obtain ⟨φ2, nx2, hb2, r2⟩ := r1.newObj (x := .loop ⟨.ready, none, fn, a.tmps, ⟨ps⟩, asg, body, w.heap.size⟩) hn2 (fun φ' w' le hw => ⟨fn, a.tmps, w.heap.size, hw, (hf.mono nx1.le).mono le⟩)
            have nx12 := nx1.trans nx2
            generalize hev : a.eval f = u at hfv'
            cases hfv' with
            | @func _ fn' _ _ first' cap' hfn ha hb h3 h4 =>
              cases hfn with
              | same hns =>
                have hL1 : LR φ2 first first' := (LR.of ha h3).mono nx12.le
                have hL2 : LR φ2 cap cap' := (LR.of hb h4).mono nx12.le
                split at hs
                · rename_i an h3' hcf
                  obtain ⟨heq, hcall⟩ := run_callF (args' := first' ++ [.func (.yield (w.heap.size + 1)) #[] #[]] ++ cap') hN hcf ((w.alloc (.deferred (some []))).alloc (.loop ⟨.ready, none, fn, a.tmps, ⟨ps⟩, asg, body, w.heap.size⟩))
                  cases heq
                  have hyv : VR φ2 (yv lb) (.func (.yield (w.heap.size + 1)) #[] #[]) := by
                    have hb2' : φ2 lb = some ⟨w.heap.size + 1, 0, 0, 0, 0⟩ := by rw [← hsz]; exact hb2
                    exact .func' (.yield ⟨w.heap.size + 1, 0, 0, 0, 0⟩ hb2') .nil .nil
                  have hargs := (hL1.append (.cons hyv .nil)).append hL2
                  obtain ⟨l0, h0, hall⟩ := bindL_spec hs
                  refine ⟨w.heap.size + 1, [{ target := .collected w.heap.size, args := #[] }], ((w.alloc (.deferred (some []))).alloc (.loop ⟨.ready, none, fn, a.tmps, ⟨ps⟩, asg, body, w.heap.size⟩)), ⟨.fn (.func g) ⟨cap'⟩, ⟨first' ++ [.func (.yield (w.heap.size + 1)) #[] #[]]⟩⟩, ((w.alloc (.deferred (some []))).alloc (.loop ⟨.ready, none, fn, a.tmps, ⟨ps⟩, asg, body, w.heap.size⟩)), g, ⟨first' ++ [.func (.yield (w.heap.size + 1)) #[] #[]] ++ cap'⟩, ((w.alloc (.deferred (some []))).alloc (.loop ⟨.ready, none, fn, a.tmps, ⟨ps⟩, asg, body, w.heap.size⟩)), run_enterLoop_outer fn a.tmps ⟨ps⟩ asg body, ?_, fun f' _ => FW_fn none f', ?_, fun x => (by cases x), FW_calls (q := none) ?_⟩
                  · simp only [resolve, hev, Deferred.ofValue, Sem.run_pure]
                    congr 2
                    apply Array.ext'
                    simp [Act.eval]
                  · simp only [invoke]
                    have : (⟨first' ++ [.func (.yield (w.heap.size + 1)) #[] #[]]⟩ ++ ⟨cap'⟩ : Array Value) = ⟨first' ++ [.func (.yield (w.heap.size + 1)) #[] #[]] ++ cap'⟩ := by apply Array.ext'; simp
                    rw [this]
                    exact hcall
                  · refine ((hc _ _ _ _ _ _ h0 r2 (.enter hargs)).1 _ _ rfl).mono ?_
                    rintro e w3 ⟨v', rfl, v, h5, hmem, φ3, nx3, r3, _⟩
                    obtain ⟨k, hk, hsub⟩ := hall _ hmem
                    dsimp only at hk
                    split at hk
                    · rename_i st pend ts sz ps' asg' body' ho
                      have hlb : φ3 lb = some ⟨w.heap.size + 1, 0, 0, 0, 0⟩ := nx3.le _ _ (by rw [← hsz]; exact hb2)
                      obtain ⟨fn0, arr0, df0, hw0, hfr0⟩ := r3.dom _ _ _ hlb ho
                      have fin : ∀ {ex : Ex}, st ≠ .busy → exCode pend = some ex → k = [⟨ex, t, [d] ++ ds, { h5 with m := h5.m.set lb (some (.loop .exhausted pend ts sz ps' asg' body')) }⟩] →
                          rangePost (FW none) m P (w.heap.size + 1) (Post w0 φ h n l) { a with defers := [{ target := .collected w.heap.size, args := #[] }] ++ a.defers } (.returned v') w3 := by
                        intro ex hst hex hkk
                        subst hkk
                        have hmem2 := hsub _ (List.mem_singleton.2 rfl)
                        refine ⟨pend, w3.putObj (w.heap.size + 1) (.loop ⟨.exhausted, pend, fn0, arr0, ⟨ps'⟩, asg', body', df0⟩), run_endLoop hw0 hst, ?_⟩
                        have r4 : R w0 φ3 { h5 with m := h5.m.set lb (some (.loop .exhausted pend ts sz ps' asg' body')) } (w3.putObj (w.heap.size + 1) (.loop ⟨.exhausted, pend, fn0, arr0, ⟨ps'⟩, asg', body', df0⟩)) :=
                          r3.put hlb ho rfl (fun w' hw => ⟨fn0, arr0, df0, hw, hfr0⟩)
                        have nxx : Nx φ φ3 h { h5 with m := h5.m.set lb (some (.loop .exhausted pend ts sz ps' asg' body')) } :=
                          (nx12.trans nx3).trans (Nx.put hlb (Nat.lt_of_lt_of_le (r3.lt _ _ hlb).2 r3.nx))
                        have pst : ∀ {ee : Exit}, ExR ex ee → Post w0 φ h n l ee { a with defers := [{ target := .collected w.heap.size, args := #[] }] ++ a.defers } (w3.putObj (w.heap.size + 1) (.loop ⟨.exhausted, pend, fn0, arr0, ⟨ps'⟩, asg', body', df0⟩)) := by
                          intro ee hee
                          refine ⟨_, hmem2, hee, φ3, nxx, r4, hf.mono (nx12.trans nx3).le, ?_⟩
                          exact .cons (nx3.le _ _ (nx2.le _ _ hb1)) (hd.mono (nx12.trans nx3).le)
                        cases pend with
                        | none => simp only [exCode] at hex; cases hex; exact pst .normal
                        | some c =>
                          cases c <;> simp only [exCode] at hex <;> cases hex
                          · exact wpIn_exit (pst (.exit _))
                          · exact wpIn_ret (pst .ret)
                      split at hk
                      · cases hk
                      · rename_i x1 x2 ex hst hex
                        cases hk
                        exact fin hst hex rfl
                      · cases hk
                    · cases hk
                · cases hs
          · cases hen
        · cases hen
    · cases hs
  · cases hs
theorem code_ok0 (hN : NoCount P) (hM : P.follows .mixedOrders = true) {call : Call1} (hc : CallsOk w0 P call) (ro : Option Nat) (LF : Nat) : ∀ (c : Code), CodeOk w0 P n ro c (aCode0 P call n LF ro c)
  | .skip => by
    intro t ds h l φ a w q m hs hr hf hd hq
    simp only [aCode0] at hs; cases hs
    exact wpIn_skip ⟨_, List.mem_singleton.2 rfl, .normal, φ, .refl φ h, hr, hf, hd⟩
  | .label _ => by
    intro t ds h l φ a w q m hs hr hf hd hq
    simp only [aCode0] at hs; cases hs
    exact wpIn_label ⟨_, List.mem_singleton.2 rfl, .normal, φ, .refl φ h, hr, hf, hd⟩
  | .ret => by
    intro t ds h l φ a w q m hs hr hf hd hq
    simp only [aCode0] at hs; cases hs
    exact wpIn_ret ⟨_, List.mem_singleton.2 rfl, .ret, φ, .refl φ h, hr, hf, hd⟩
  | .exit id => by
    intro t ds h l φ a w q m hs hr hf hd hq
    simp only [aCode0] at hs; cases hs
    exact wpIn_exit ⟨_, List.mem_singleton.2 rfl, .exit id, φ, .refl φ h, hr, hf, hd⟩
  | .seq x y => by
    intro t ds h l φ a w q m hs hr hf hd hq
    simp only [aCode0] at hs
    obtain ⟨l0, h0, hall⟩ := bindL_spec hs
    refine wpIn_seq (wpIn_mono (code_ok0 hN hM hc ro LF x m h0 hr hf hd hq) ?_)
    rintro e a' w' ⟨o, ho, hex, φ1, nx1, r1, f1, d1⟩
    obtain ⟨k, hk, hsub⟩ := hall _ ho
    obtain ⟨ex, t1, ds1, h1⟩ := o
    cases hex with
    | normal => exact wpIn_mono (code_ok0 hN hM hc ro LF y m hk r1 f1 d1 (hq.mono nx1.le)) (fun e a w p => (p.sub hsub).from nx1)
    | exit id => cases hk; exact ⟨_, hsub _ (List.mem_singleton.2 rfl), .exit id, φ1, nx1, r1, f1, d1⟩
    | ret => cases hk; exact ⟨_, hsub _ (List.mem_singleton.2 rfl), .ret, φ1, nx1, r1, f1, d1⟩
  | .cond c x y => by
    intro t ds h l φ a w q m hs hr hf hd hq
    simp only [aCode0] at hs
    split at hs
    · rename_i b hb
      have hb' := (aO_ok hf hb).bool_inv
      refine wpIn_cond_split hb' (fun e => ?_) (fun e => ?_)
      · rw [if_pos e] at hs; exact code_ok0 hN hM hc ro LF x m hs hr hf hd hq
      · rw [if_neg (by simp [e])] at hs; exact code_ok0 hN hM hc ro LF y m hs hr hf hd hq
    · cases hs
  | .block id c => by
    intro t ds h l φ a w q m hs hr hf hd hq
    simp only [aCode0] at hs
    obtain ⟨l0, h0, hall⟩ := bindL_spec hs
    refine wpIn_block (wpIn_mono (code_ok0 hN hM hc ro LF c m h0 hr hf hd hq) ?_)
    rintro e a' w' ⟨o, ho, hex, φ1, nx1, r1, f1, d1⟩
    obtain ⟨k, hk, hsub⟩ := hall _ ho
    obtain ⟨ex, t1, ds1, h1⟩ := o
    cases hex with
    | normal => cases hk; exact ⟨_, hsub _ (List.mem_singleton.2 rfl), .normal, φ1, nx1, r1, f1, d1⟩
    | exit j =>
      dsimp only at hk
      simp only [Exit.inBlock]
      by_cases hj : j = id
      · rw [if_pos hj] at hk ⊢; cases hk; exact ⟨_, hsub _ (List.mem_singleton.2 rfl), .normal, φ1, nx1, r1, f1, d1⟩
      · rw [if_neg hj] at hk ⊢; cases hk; exact ⟨_, hsub _ (List.mem_singleton.2 rfl), .exit j, φ1, nx1, r1, f1, d1⟩
    | ret => cases hk; exact ⟨_, hsub _ (List.mem_singleton.2 rfl), .ret, φ1, nx1, r1, f1, d1⟩
  | .loop c => loop_ok (code_ok0 hN hM hc ro LF c) LF
  | .region id ops draw => by
    intro t ds h l φ a w q m hs hr hf hd hq
    simp only [aCode0] at hs
    obtain ⟨l0, h0, hall⟩ := bindL_spec hs
    have fin : ∀ t' h' φ' (a' : Act) w', (t', h') ∈ l0 → Nx φ φ' h h' → R w0 φ' h' w' → FR φ' n t' a'.tmps → a'.defers = a.defers → Post w0 φ h n l .normal a' w' := by
      intro t' h' φ' a' w' hm nx' r' f' d'
      obtain ⟨k, hk, hsub⟩ := hall _ hm
      cases hk
      exact ⟨_, hsub _ (List.mem_singleton.2 rfl), .normal, φ', nx', r', f', by rw [d']; exact hd.mono nx'.le⟩
    cases draw with
    | true => exact draw_ok hN hM hc h0 hr hf fin
    | false => exact region_list (ops_ok hN hc h0 hr hf fin)
  | .rangeFunc f ps asg body => by obtain ⟨ps⟩ := ps; exact rangeFunc_ok hN hc
  | .scope c => by intro t ds h l φ a w q m hs hr hf hd hq; simp [aCode0] at hs
  | .goto c => by intro t ds h l φ a w q m hs hr hf hd hq; simp [aCode0] at hs
  | .refuse c => by intro t ds h l φ a w q m hs hr hf hd hq; simp [aCode0] at hs
theorem code_ok (hN : NoCount P) (hM : P.follows .mixedOrders = true) {call : Call1} (hc : CallsOk w0 P call) (ro : Option Nat) (LF : Nat) (c : Code) : CodeOk w0 P n ro c (aCode P call n LF ro c) := by
  rw [aCode_eq]; exact code_ok0 hN hM hc ro LF c
end
end Go.X
